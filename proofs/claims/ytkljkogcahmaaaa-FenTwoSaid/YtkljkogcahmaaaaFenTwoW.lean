/- The walk of FenTwo. No condition. -/
import Derived.Test.YtkljkogcahmaaaaFenTwoL
import Derived.RegionTactic
import Derived.BigRegion
set_option linter.unusedSimpArgs false
set_option linter.unusedVariables false
namespace Go.Proofs.Ytkljkogcahmaaaa.fenTwo
open Go.RowKit Go.Proofs.Ytkljkogcahmaaaa Go.Maps
theorem walk_bad (v : Value) (zs : List Int) (w : World) (h : Rd w v zs) (hk : ¬ OkL zs) :
    Calls Try.prog 5 #[v] w fun e w' => e = .returned (.bool true) ∧ Below w.heap.size w w' := by
  have HS := Lib.hid (fun w h => sums_bad v zs w h hk)
  have HR := Lib.hid h
  clear h hk
  go_enter Try.func5, Try.ntmps5
  go_wp2_with fail
  refine (alive_any _).mono ?_
  rintro e w1 ⟨rfl, hb1⟩
  have HB1 := Lib.hid hb1
  have HR1 := Lib.hid (HR.out.below hb1 (Nat.le_refl _))
  clear hb1
  go_wp2_with fail
  refine (HS.out _ HR1.out).mono ?_
  rintro e w2 ⟨rfl, rfl⟩
  go_wp2_with fail
  go_ret
  exact ⟨rfl, HB1.out⟩
set_option maxHeartbeats 3200000 in
set_option maxRecDepth 20000 in
theorem walk_ok (v : Value) (zs : List Int) (w : World) (h : Rd w v zs) (hk : OkL zs) :
    Calls Try.prog 5 #[v] w fun e w' => e = .returned (.bool true) ∧ Below w.heap.size w w' := by
  have hmm := @run_makeMap Try.prog
  have HR := Lib.hid h
  have HK := Lib.hid hk
  have HS := Lib.hid (fun w h => sums_ok v zs w h hk)
  have HPA := Lib.hid (fun n k w h hkl ha => pick_at v zs n k w h hk hkl ha)
  have HDR := Lib.hid (fun v2 ns w h h2 hl => draw_ok v v2 zs ns w h h2 hk hl)
  have HTB : Hid (∀ i, i ≤ 400 → tot (nd zs) i ≤ 429496729600) := fun i hi => tot_cap hk.le hi
  have hl := hk.1
  have L1 : (sumsL zs).length = zs.length + 1 := tabI_len _ _
  have G1 : Hid (∀ i, i < zs.length + 1 → (sumsL zs).getD i 0 = (tot (nd zs) i : Int)) := fun i hi => tabI_get _ _ _ hi
  have HAT : Hid (∀ n, n < tot (nd zs) zs.length → ∃ k, k < zs.length ∧ AtP (nd zs) n k) := fun n h => at_exists (nd zs) n zs.length h
  obtain ⟨a, cap, rfl, hlc, hcm, hop⟩ := h.open
  have HOP := Lib.hid hop
  generalize sumsL zs = l1 at *
  clear h hk hop
  go_enter Try.func5, Try.ntmps5
  go_wp2_with fail
  refine (alive_any _).mono ?_
  rintro e w1 ⟨rfl, hb1⟩
  have HB1 := Lib.hid hb1
  have HR1 := Lib.hid (HR.out.below hb1 (Nat.le_refl _))
  clear hb1
  go_wp2_with fail
  refine (HS.out _ HR1.out).mono ?_
  rintro e w2 ⟨hb2, u, rfl, hr2⟩
  have HB2 := Lib.hid (HB1.out.trans (hb2.mono HB1.out.size))
  have HR2 := Lib.hid (HR1.out.below hb2 (Nat.le_refl _))
  obtain ⟨a1, q1, rfl, hlq1, hq1, hop1⟩ := hr2.open
  rw [L1] at hlq1 hop1 ⊢
  obtain ⟨b1, o1, rfl, hbl1, hcc1⟩ := hop1 zs.length (by omega)
  have d1 := hcc1 zs.length (by omega)
  rw [G1.out _ (by omega)] at d1
  have tb := HTB.out zs.length (by omega)
  clear hb2 hr2 hop1 hcc1
  by_cases hS : 60 < tot (nd zs) zs.length
  · have f1 : decide (60 < (tot (nd zs) zs.length : Int)) = true := decide_eq_true (by omega)
    generalize tot (nd zs) zs.length = S at *
    go_wp2_with fail
    go_ret
    exact ⟨rfl, HB2.out⟩
  · have f1 : decide (60 < (tot (nd zs) zs.length : Int)) = false := decide_eq_false (by omega)
    have hSb : tot (nd zs) zs.length ≤ 60 := by omega
    obtain ⟨S, hSS⟩ : ∃ S, tot (nd zs) zs.length = S := ⟨_, rfl⟩
    rw [hSS] at hSb d1 f1 HAT
    have HSS := Lib.hid hSS
    clear hS hSS tb
    go_wp2_with fail
    clear d1 f1 hmm
    have hgS := Nat.lt_irrefl 0
    go_loopw [59] (fun iv wr => ∃ A : Nat, A ≤ S ∧ iv = .int .i64 A ∧ Below w2.heap.size w2 wr ∧ MI wr w2.heap.size (A * 61) zs.length (fun i j => cnt (nd zs) A i * zap (nd zs) i j)) (fun iv _ => S - (intOf iv).toNat)
    case atStart =>
      refine ⟨0, Nat.zero_le _, rfl, (Below.refl _ _).alloc (Nat.le_refl _) _, ?_⟩
      exact (MI.made w2 zs.length (by omega)).congr (fun i j _ _ => by rw [cnt_zero, Nat.zero_mul])
    case round =>
      obtain ⟨A, hA, rfl, hbel, hmi⟩ := hrel
      by_cases hlt : A < S
      · obtain ⟨p, hpl, hat⟩ := HAT.out A hlt
        have HP := Lib.hid (HPA.out A p wr (HR2.out.below hbel (Nat.le_refl _)) hpl hat)
        have HBE := Lib.hid hbel
        have HMI := Lib.hid hmi
        have HAA := Lib.hid hat
        clear hbel hmi hat
        go_wp2_with fail
        refine HP.out.mono ?_
        rintro e w4 ⟨rfl, hb4⟩
        have HB5 := Lib.hid (HBE.out.trans (hb4.mono HBE.out.size))
        have HM5 := Lib.hid (HMI.out.kept hb4 HMI.out.lt)
        obtain ⟨b, o, rfl, hbl, hc⟩ := HOP.out p hpl
        have dw := (World.cell?_of_block ((HB2.out.trans (HB5.out.mono HB2.out.size)).block b hbl)).trans (hc p hpl)
        rw [HK.out.nd hpl] at dw
        have hz := tot_zap (nd zs) hpl
        rw [HSS.out] at hz
        obtain ⟨x, hx⟩ : ∃ x, nd zs p = x := ⟨_, rfl⟩
        obtain ⟨T, hT⟩ : ∃ T, tot (zap (nd zs) p) zs.length = T := ⟨_, rfl⟩
        rw [hx] at dw hz
        rw [hT] at hz
        have HT := Lib.hid hT
        have HX := Lib.hid hx
        have hxl : x ≤ 60 := by omega
        have hTl : T ≤ 60 := by omega
        have f2 : decide ((zs.length : Int) ≤ p) = false := decide_eq_false (by omega)
        have f3 : decide (zs.length ≤ p) = false := decide_eq_false (by omega)
        have hST : (S : Int) - (x : Int) = (T : Int) := by omega
        clear hT hx hz hb4 hc hgS HP HMI HBE
        go_wp2_with fail
        clear dw f2 f3
        go_loopw [86] (fun iv wr => ∃ b : Nat, b ≤ T ∧ iv = .int .i64 b ∧ Below w2.heap.size w2 wr ∧ MI wr w2.heap.size (A * 61 + b) zs.length (CC (nd zs) A p b)) (fun iv _ => T - (intOf iv).toNat)
        case atStart => exact ⟨0, Nat.zero_le _, rfl, HB5.out, HM5.out.congr (fun i j _ _ => (CC_zero _ _ _ _ _).symm)⟩
        case round =>
          clear HM5 HB5
          obtain ⟨c, hc, rfl, hbel, hmi⟩ := hrel
          by_cases hlt2 : c < T
          · obtain ⟨q, hql, hatq⟩ := at_exists (zap (nd zs) p) c zs.length (by rw [HT.out]; omega)
            have HD := Lib.hid (HDR.out (.slice (some ⟨wr.heap.size, 0, none⟩) 2 2) [(A : Int), (c : Int)] (wr.alloc (.cells #[.int .i64 A, .int .i64 c] 3)) ((HR2.out.below hbel (Nat.le_refl _)).alloc _) (Rd.built wr _ _ _ rfl 2 rfl (by decide)) (by simp))
            have HDE := Lib.hid (drw_two (f := nd zs) (N := zs.length) (A := A) (b := c) (p := p) (q := q) (by rw [HSS.out]; omega) HAA.out (by rw [HT.out]; omega) hatq)
            have HLK := Lib.hid (fun w' (hm : MI w' w2.heap.size (A * 61 + c) zs.length (CC (nd zs) A p c)) => hm.look hpl hql)
            have HIN := Lib.hid (fun w' (hm : MI w' w2.heap.size (A * 61 + c) zs.length (CC (nd zs) A p c)) => hm.incr hpl hql (by unfold maxLen; omega) (Nat.lt_of_le_of_lt (CC_le (N := zs.length) hql (by omega) (by omega) (by rw [HSS.out]; exact hSb)) (by omega)))
            have hCl : CC (nd zs) A p c p q ≤ 3660 := CC_le (N := zs.length) hql (by omega) (by omega) (by rw [HSS.out]; exact hSb)
            have HCS := Lib.hid (fun i j => CC_step (A := A) hatq i j)
            have HBE := Lib.hid hbel
            have HMI := Lib.hid hmi
            clear hbel hmi hatq
            generalize CC (nd zs) A p c p q = y at *
            go_wp2_with fail
            refine HD.out.mono ?_
            rintro e w5 ⟨hb5, hp5⟩
            have hb6 : Below w2.heap.size wr w5 := (((Below.refl wr.heap.size wr).alloc (Nat.le_refl _) _).trans (hb5.mono (by simp))).mono HBE.out.size
            have HB6 := Lib.hid (HBE.out.trans hb6)
            unfold DrawPost at hp5
            rw [HDE.out] at hp5
            obtain ⟨u, rfl, hu⟩ := hp5
            have hm6 := HMI.out.kept (((Below.refl wr.heap.size wr).alloc (Nat.le_refl _) _).trans (hb5.mono (by simp))) HMI.out.lt
            have hm6 : MI w5.drew w2.heap.size (A * 61 + c) zs.length (CC (nd zs) A p c) := hm6
            have elk := HLK.out w5.drew hm6
            obtain ⟨v0, st, wa, wb, een, est, hm7, hgr7, elk2⟩ := HIN.out w5.drew hm6
            rw [show ((y + 1 : Nat) : Int) = (y : Int) + 1 from rfl] at est
            unfold pr at elk een elk2
            have HB7 := Lib.hid (HB6.out.drew.grown hgr7 HB6.out.size (fun k hk => by cases hk; exact Nat.le_refl _))
            have HM7 := Lib.hid (hm7.congr (C' := CC (nd zs) A p (c + 1)) (fun i j _ _ => HCS.out i j))
            obtain ⟨a3, q3, rfl, hlq3, hq3, hop3⟩ := hu.open
            simp only [List.length_cons, List.length_nil, Nat.zero_add, Nat.reduceAdd] at hlq3 hop3
            obtain ⟨b3, o3, rfl, hbl3, hcc3⟩ := hop3 0 (by omega)
            have e0 := hcc3 0 (by omega)
            have e1 := hcc3 1 (by omega)
            simp only [List.getD_cons_zero, List.getD_cons_succ, Nat.add_zero] at e0 e1
            clear hu hop3 hcc3 hm6 hm7 hgr7 hb5 hb6 HMI HBE HD HDE HLK HIN HCS HB6
            go_wp2_with fail
            go_region
            clear elk elk2 een est e0 e1
            go_wp2_with fail
            go_roundw
            case rel => exact ⟨c + 1, by omega, by go_num, HB7.out, HM7.out⟩
            case measure => simp [intOf]; omega
          · obtain rfl : c = T := by omega
            have HBE := Lib.hid hbel
            have HMI := Lib.hid ((hmi.congr (C' := fun i j => cnt (nd zs) (A + 1) i * zap (nd zs) i j) (fun i j _ hj => by have := CC_end HAA.out i hj; rw [HT.out] at this; exact this)).mono (show A * 61 + c ≤ (A + 1) * 61 by omega))
            clear hbel hmi
            go_wp2_with fail
            go_roundw
            case rel => exact ⟨A + 1, by omega, by go_num, HBE.out, HMI.out⟩
            case measure => simp [intOf]; omega
      · obtain rfl : A = S := by omega
        have HBE := Lib.hid hbel
        have HMI := Lib.hid (hmi.congr (C' := fun i j => nd zs i * zap (nd zs) i j) (fun i j hi _ => by have := cnt_end (nd zs) hi; rw [HSS.out] at this; rw [this]))
        clear hbel hmi
        go_wp2_with fail
        go_loopw [127] (fun iv wr2 => ∃ i : Nat, i ≤ zs.length ∧ iv = .int .i64 i ∧ wr2 = wr) (fun iv _ => zs.length - (intOf iv).toNat)
        case atStart => exact ⟨0, Nat.zero_le _, rfl, rfl⟩
        case round =>
          obtain ⟨i, hi, rfl, rfl⟩ := hrel
          by_cases hli : i < zs.length
          · obtain ⟨b, o, rfl, hbl, hc⟩ := HOP.out i hli
            have HCL := Lib.hid (fun k hk => (World.cell?_of_block ((HB2.out.trans (HBE.out.mono HB2.out.size)).block b hbl)).trans (hc k hk))
            have di := HCL.out i hli
            rw [HK.out.nd hli] at di
            clear hc
            go_wp2_with fail
            clear di
            go_loopw [134] (fun iv wr2 => ∃ j : Nat, j ≤ zs.length ∧ iv = .int .i64 j ∧ wr2 = wr) (fun iv _ => zs.length - (intOf iv).toNat)
            case atStart => exact ⟨0, Nat.zero_le _, rfl, rfl⟩
            case round =>
              obtain ⟨j, hj, rfl, rfl⟩ := hrel
              by_cases hlj : j < zs.length
              · have dj := HCL.out j hlj
                rw [HK.out.nd hlj] at dj
                by_cases hij : i = j
                · subst hij
                  go_wp2_with fail
                  go_roundw
                  case rel => exact ⟨i + 1, by omega, by go_num, trivial⟩
                  case measure => simp [intOf]; omega
                · have f1 : ((i : Int) == (j : Int)) = false := by rw [beq_eq_false_iff_ne]; omega
                  have elk := HMI.out.look hli hlj
                  have hzz : zap (nd zs) i j = nd zs j := by unfold zap; rw [if_neg (fun h => hij h.symm)]
                  rw [hzz] at elk
                  unfold pr at elk
                  have hx := Nat.le_trans (tot_ge (nd zs) hli) (by rw [HSS.out]; exact hSb)
                  have hy := Nat.le_trans (tot_ge (nd zs) hlj) (by rw [HSS.out]; exact hSb)
                  have hm := Nat.mul_le_mul hx hy
                  have hpr : (nd zs i : Int) * (nd zs j : Int) = ((nd zs i * nd zs j : Nat) : Int) := rfl
                  generalize nd zs i * nd zs j = m at *
                  generalize nd zs i = x at *
                  generalize nd zs j = y at *
                  clear hzz
                  go_wp2_with fail
                  exact ⟨⟨j + 1, by omega, by go_num, trivial⟩, by simp [intOf]; omega⟩
              · obtain rfl : j = zs.length := by omega
                go_wp2_with fail
                go_roundw
                case rel => exact ⟨i + 1, by omega, by go_num, trivial⟩
                case measure => simp [intOf]; omega
          · obtain rfl : i = zs.length := by omega
            go_wp2_with fail
            go_ret
            exact ⟨rfl, HB2.out.trans (HBE.out.mono HB2.out.size)⟩
theorem walk (a0 : Option Addr) (len0 cap0 : Nat) (z0 : List Int) (w : World) (w0 : IsRow .i64 w a0 len0 cap0 z0) :
    Calls Try.prog 5 #[.slice a0 len0 cap0] w fun e w' => e = .returned (.bool true) ∧ Below w.heap.size w w' := by
  by_cases h : OkL (z0.take len0)
  · exact walk_ok _ _ w w0.rd.1 h
  · exact walk_bad _ _ w w0.rd.1 h
end Go.Proofs.Ytkljkogcahmaaaa.fenTwo
