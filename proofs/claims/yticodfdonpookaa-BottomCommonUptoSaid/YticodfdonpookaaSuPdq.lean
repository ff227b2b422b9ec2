/- pdqsortOrdered[uint64]: it sorts within its range. Condition: indices within the row; what lies ahead of the range is no greater. (Printed by mkpdq.py.) -/
import Derived.Test.YticodfdonpookaaSuCon
set_option linter.unusedSimpArgs false
set_option linter.unusedVariables false
set_option maxRecDepth 20000
namespace Go.Proofs.Yticodfdonpookaa.Su
open Go.RowKit Go.Sort
theorem SL.drewN {w w' : World} {blk off L : Nat} {d : Array Int} (h : SL w w' blk off L d) (k : Nat) : SL w (w'.drewN k) blk off L d := ⟨h.1.drewN k, h.2⟩
theorem SL.drew {w w' : World} {blk off L : Nat} {d : Array Int} (h : SL w w' blk off L d) : SL w w'.drew blk off L d := ⟨h.1.drew, h.2⟩
theorem SL.cell {w W : World} {blk off L : Nat} {d : Array Int} (hR : RW w blk off L) (h : SL w W blk off L d) (i : Nat) (hi : i < L) : W.cell? ⟨blk, off + i, none⟩ = some (.int .u64 d[i]!) ∧ W.frozen? ⟨blk, off + i, none⟩ = false :=
  (h.at hR).1 i (by rw [h.2]; exact hi)
/-- What is left to do: whatever sorts [x, y) of r sorts [a, b) of d. -/
def Rest (a b : Nat) (d : Array Int) (x y : Nat) (r : Array Int) : Prop := ∀ R, PermIn x y r R → SortedIn ltInt x y R → PermIn a b d R ∧ SortedIn ltInt a b R
theorem Rest.pre {a b x y : Nat} {d r s : Array Int} (h : Rest a b d x y r) (hp : PermIn x y r s) : Rest a b d x y s := fun R h1 h2 => h R (permIn_trans _ _ _ _ _ hp h1) h2
theorem below_permute {a b : Nat} {d d' : Array Int} (h : Sort.Below ltInt a b d) (hb : b ≤ d.size) (hp : PermIn a b d d') : Sort.Below ltInt a b d' := h.perm hb hp
def pdqSays (blk off L cap : Nat) (w : World) (n : Nat) : Prop := ∀ (a b lim : Nat) (d : Array Int) (W : World), b - a = n → a ≤ b → b ≤ L → lim ≤ 64 → SL w W blk off L d → Sort.Below ltInt a b d →
    Calls Try.prog 39 #[.slice (some ⟨blk, off, none⟩) L cap, .int .i64 (a : Int), .int .i64 (b : Int), .int .i64 (lim : Int)] W fun e w' => e = .returned (.tuple #[]) ∧ ∃ R, SL w w' blk off L R ∧ PermIn a b d R ∧ SortedIn ltInt a b R
set_option maxHeartbeats 12800000 in
theorem pdq_step (blk off L cap n : Nat) (w : World) (hR : RW w blk off L) (hL2 : L < 4611686018427387904) (IH : ∀ m, m < n → pdqSays blk off L cap w m) : pdqSays blk off L cap w n := by
  intro a b lim d W hn hab hbL hlim hS hB
  have HR := Lib.hid hR
  have HS0 := Lib.hid hS
  have HB0 := Lib.hid hB
  have HIH := Lib.hid IH
  clear hR hS hB IH
  go_enter Try.func39, Try.ntmps39
  go_wp2_with fail
  go_loopw [1, 2, 3, 8, 9] (fun xv yv lv bv pv wr => ∃ (x y l : Nat) (r : Array Int) (wb wp : Bool), xv = .int .i64 (x : Int) ∧ yv = .int .i64 (y : Int) ∧ lv = .int .i64 (l : Int) ∧ bv = .bool wb ∧ pv = .bool wp ∧ x ≤ y ∧ y ≤ L ∧ l ≤ 64 ∧ y - x ≤ n ∧ Hid (SL w wr blk off L r) ∧ Hid (Sort.Below ltInt x y r) ∧ Hid (Rest a b d x y r)) (fun xv yv _ _ _ _ => (intOf yv - intOf xv).toNat)
  case atStart => exact ⟨a, b, lim, d, true, true, rfl, rfl, rfl, rfl, rfl, hab, hbL, hlim, by omega, HS0.out, HB0.out, fun R h1 h2 => ⟨h1, h2⟩⟩
  case round =>
    clear HS0 HB0
    obtain ⟨x, y, l, r, wb, wp, rfl, rfl, rfl, rfl, rfl, hxy, hyL, hl, hyx, HS, HB, HE⟩ := hrel
    obtain ⟨wo, rfl⟩ : ∃ wo : World, wo = wr := ⟨_, rfl⟩
    obtain ⟨k, hk⟩ : ∃ k, y - x = k := ⟨_, rfl⟩
    have hkI : (y : Int) - (x : Int) = (k : Int) := by omega
    have wk : IntKind.i64.wrap (k : Int) = (k : Int) := wr64 (by omega)
    by_cases h12 : k ≤ 12
    · have h12I : (k : Int) ≤ 12 := by omega
      have HC := Lib.hid (c50 cap x y r wo HR.out HS.out hxy hyL)
      clear HS
      go_wp2_with fail
      refine HC.out.mono ?_
      rintro e w1 ⟨rfl, R, h1, h2, h3⟩
      have HQ := Lib.hid (HE.out R h2 h3)
      have H1 := Lib.hid h1
      clear h1 h2 h3 HC
      go_wp2_with fail
      exact bodyPost_ret (results_none rfl _ _ _) rfl ⟨rfl, R, H1.out, HQ.out⟩
    · have h12I : ¬ (k : Int) ≤ 12 := by omega
      have hx12 : x + 12 < y := by omega
      by_cases hl0 : l = 0
      · subst hl0
        have z0 : ((0 : Nat) : Int) = 0 := rfl
        rw [z0]
        have HC := Lib.hid (c51 cap x y r wo HR.out HS.out (by omega) hyL)
        clear HS
        go_wp2_with fail
        refine HC.out.mono ?_
        rintro e w1 ⟨rfl, R, h1, h2, h3⟩
        have HQ := Lib.hid (HE.out R h2 h3)
        have H1 := Lib.hid h1
        clear h1 h2 h3 HC
        go_wp2_with fail
        exact bodyPost_ret (results_none rfl _ _ _) rfl ⟨rfl, R, H1.out, HQ.out⟩
      · have hl0I : ¬ (l : Int) = 0 := by omega
        have hl0B : ((l : Int) == 0) = false := beq_eq_false_iff_ne.mpr hl0I
        go_upto_if 35 with (fail)
        go_cut [3] (fun lv wx => ∃ (l1 : Nat) (r1 : Array Int), lv = .int .i64 (l1 : Int) ∧ l1 ≤ 64 ∧ Hid (SL w wx blk off L r1) ∧ Hid (PermIn x y r r1))
        case first =>
          cases wb with
          | true =>
            go_wp2_with fail
            go_meet
            exact ⟨l, r, rfl, hl, HS.out, permIn_refl _ _ _⟩
          | false =>
            have HC := Lib.hid (c52 cap x y r wo HR.out HS.out hx12 hyL)
            have hl1I : (l : Int) - 1 = ((l - 1 : Nat) : Int) := by omega
            have wl : IntKind.i64.wrap ((l : Int) - 1) = (l : Int) - 1 := wr64 (by omega)
            clear HS
            go_wp2_with fail
            refine HC.out.mono ?_
            rintro e w1 ⟨rfl, R, h1, h2⟩
            have H1 := Lib.hid h1
            have H2 := Lib.hid h2
            clear h1 h2 HC
            go_wp2_with fail
            go_meet
            exact ⟨l - 1, R, by congr 1, by omega, H1.out, H2.out⟩
        case rest =>
          obtain ⟨l1, r1, rfl, hl1, HS1, HP1⟩ := hcut
          have HE1 := Lib.hid (HE.out.pre HP1.out)
          have HB1 := Lib.hid (below_permute HB.out (by rw [HS.out.2]; exact hyL) HP1.out)
          clear HS HE HB HP1 hl0B hl0I hl0 hl
          obtain ⟨wo1, rfl⟩ : ∃ wo : World, wo = wc := ⟨_, rfl⟩
          have HC := Lib.hid (c53 cap x y r1 wo1 HR.out HS1.out hx12 hyL)
          go_wp2_with fail
          refine HC.out.mono ?_
          rintro e w1 ⟨⟨p, g, rfl, hxp, hpy, hg⟩, h1⟩
          have HS2 := Lib.hid h1
          clear h1 HC HS1
          go_upto_if 50 with (fail)
          go_cut [11, 12] (fun pv gv wx => ∃ (p2 : Nat) (g2 : Int) (r2 : Array Int), pv = .int .i64 (p2 : Int) ∧ gv = .int .i64 g2 ∧ x ≤ p2 ∧ p2 < y ∧ (g2 = 1 ∨ g2 = 0) ∧ Hid (SL w wx blk off L r2) ∧ Hid (PermIn x y r1 r2))
          case first =>
            rcases hg with rfl | rfl | rfl
            · have HC := Lib.hid (c54 cap x y r1 w1 HR.out HS2.out (by omega) hyL)
              obtain ⟨q, hq⟩ : ∃ q, p - x = q := ⟨_, rfl⟩
              have hqI : (p : Int) - (x : Int) = (q : Int) := by omega
              have wq : IntKind.i64.wrap (q : Int) = (q : Int) := wr64 (by omega)
              obtain ⟨y1, hy1⟩ : ∃ y1, y - 1 = y1 := ⟨_, rfl⟩
              have hy1I : (y : Int) - 1 = (y1 : Int) := by omega
              have wy1 : IntKind.i64.wrap (y1 : Int) = (y1 : Int) := wr64 (by omega)
              obtain ⟨p2, hp2⟩ : ∃ p2, y1 - q = p2 := ⟨_, rfl⟩
              have hp2I : (y1 : Int) - (q : Int) = (p2 : Int) := by omega
              have wp2 : IntKind.i64.wrap (p2 : Int) = (p2 : Int) := wr64 (by omega)
              clear HS2
              go_wp2_with fail
              refine HC.out.mono ?_
              rintro e w2 ⟨rfl, R, h1, h2⟩
              have H1 := Lib.hid h1
              have H2 := Lib.hid h2
              clear h1 h2 HC
              go_wp2_with fail
              go_meet
              exact ⟨p2, 1, R, rfl, rfl, by omega, by omega, Or.inl rfl, H1.out, H2.out⟩
            · go_wp2_with fail
              go_meet
              exact ⟨p, 1, r1, rfl, rfl, hxp, hpy, Or.inl rfl, HS2.out, permIn_refl _ _ _⟩
            · go_wp2_with fail
              go_meet
              exact ⟨p, 0, r1, rfl, rfl, hxp, hpy, Or.inr rfl, HS2.out, permIn_refl _ _ _⟩
          case rest =>
            clear hg hxp hpy
            obtain ⟨p, g, r2, rfl, rfl, hxp, hpy, hg, HS3, HP2⟩ := hcut
            have HE2 := Lib.hid (HE1.out.pre HP2.out)
            have HB2 := Lib.hid (below_permute HB1.out (by rw [HS2.out.2]; exact hyL) HP2.out)
            clear HS2 HE1 HB1 HP2
            obtain ⟨wo2, rfl⟩ : ∃ wo : World, wo = wc := ⟨_, rfl⟩
            go_upto_region 15 with (fail)
            go_cut [68] (fun cv wx => ∃ c : Bool, cv = .bool c ∧ Hid (SL w wx blk off L r2))
            case first =>
              rcases hg with rfl | rfl <;> cases wb <;> cases wp <;> (go_wp2_with fail; go_meet; exact ⟨_, rfl, HS3.out⟩)
            case rest =>
              obtain ⟨c, rfl, HS4⟩ := hcut
              clear HS3
              obtain ⟨wo3, rfl⟩ : ∃ wo : World, wo = wc := ⟨_, rfl⟩
              go_upto_if 68 with (fail)
              go_cut [] (fun wx => ∃ r3 : Array Int, Hid (SL w wx blk off L r3) ∧ Hid (PermIn x y r2 r3))
              case first =>
                cases c with
                | true =>
                  have HC := Lib.hid (c55 cap x y r2 wo3 HR.out HS4.out (by omega) hyL HB2.out)
                  clear HS4
                  go_wp2_with fail
                  refine HC.out.mono ?_
                  rintro e w2 ⟨c2, R, rfl, h1, h2, h3⟩
                  have H1 := Lib.hid h1
                  have H2 := Lib.hid h2
                  have H3 := Lib.hid h3
                  clear h1 h2 h3 HC
                  cases c2 with
                  | true =>
                    have HQ := Lib.hid (HE2.out R H2.out (H3.out rfl))
                    go_wp2_with fail
                    exact bodyPost_ret (results_none rfl _ _ _) rfl ⟨rfl, R, H1.out, HQ.out⟩
                  | false =>
                    go_wp2_with fail
                    go_meet
                    exact ⟨R, H1.out, H2.out⟩
                | false =>
                  go_wp2_with fail
                  go_meet
                  exact ⟨r2, HS4.out, permIn_refl _ _ _⟩
              case rest =>
                obtain ⟨r3, HS5, HP3⟩ := hcut
                have HE3 := Lib.hid (HE2.out.pre HP3.out)
                have HB3 := Lib.hid (below_permute HB2.out (by rw [HS4.out.2]; exact hyL) HP3.out)
                clear HS4 HE2 HB2 HP3
                obtain ⟨wo4, rfl⟩ : ∃ wo : World, wo = wc := ⟨_, rfl⟩
                go_upto_region 17 with (fail)
                go_cut [87] (fun cv wx => ∃ c : Bool, cv = .bool c ∧ Hid (SL w wx blk off L r3) ∧ Hid (c = true → 0 < x ∧ ltInt r3[x - 1]! r3[p]! = false))
                case first =>
                  by_cases hx0 : 0 < x
                  · have hx0I : (0 : Int) < (x : Int) := by omega
                    have p1 : decide ((0 : Int) < (x : Int)) = true := decide_eq_true hx0I
                    obtain ⟨x1, hx1⟩ : ∃ x1, x - 1 = x1 := ⟨_, rfl⟩
                    have hx1I : (x : Int) - 1 = (x1 : Int) := by omega
                    have wx1 : IntKind.i64.wrap (x1 : Int) = (x1 : Int) := wr64 (by omega)
                    obtain ⟨ca, fa⟩ := HS5.out.cell HR.out x1 (by omega)
                    obtain ⟨cp, fp⟩ := HS5.out.cell HR.out p (by omega)
                    obtain ⟨u, hu⟩ : ∃ u, r3[x1]! = u := ⟨_, rfl⟩
                    obtain ⟨v, hv⟩ : ∃ v, r3[p]! = v := ⟨_, rfl⟩
                    rw [hu] at ca
                    rw [hv] at cp
                    have HU := Lib.hid hu
                    have HV := Lib.hid hv
                    clear hu hv
                    have HLF : Hid (∀ (W : World) m, Calls Try.prog 56 #[.int .u64 u, .int .u64 v] (W.drewN m) fun e w' => e = .returned (.bool (ltInt u v)) ∧ ∃ m', w' = W.drewN m') := fun W m => (less_any u v _).mono fun e w' ⟨h1, h2⟩ => ⟨h1, m, h2⟩
                    cases hlt : ltInt u v with
                    | true =>
                      rw [hlt] at HLF
                      clear hlt
                      go_wp2_with fail
                      go_quiet ((go_at_call 56; (with_reducible exact HLF.out _ _)))
                      go_wp2_with fail
                      go_meet
                      exact ⟨false, rfl, HS5.out.drewN _, fun h => by cases h⟩
                    | false =>
                      have HLT : Hid (ltInt r3[x - 1]! r3[p]! = false) := by show _ = _; rw [hx1, HU.out, HV.out]; exact hlt
                      rw [hlt] at HLF
                      clear hlt
                      go_wp2_with fail
                      go_quiet ((go_at_call 56; (with_reducible exact HLF.out _ _)))
                      go_wp2_with fail
                      go_meet
                      exact ⟨true, rfl, HS5.out.drewN _, fun _ => ⟨hx0, HLT.out⟩⟩
                  · have hx00 : x = 0 := by omega
                    have hx0I : ¬ (0 : Int) < (x : Int) := by omega
                    have p1 : decide ((0 : Int) < (x : Int)) = false := decide_eq_false hx0I
                    clear hx00
                    go_wp2_with fail
                    go_quiet (fail)
                    go_wp2_with fail
                    go_meet
                    exact ⟨false, rfl, HS5.out.drewN _, fun h => by cases h⟩
                case rest =>
                  obtain ⟨c, rfl, HS6, HX⟩ := hcut
                  clear HS5
                  obtain ⟨wo5, rfl⟩ : ∃ wo : World, wo = wc := ⟨_, rfl⟩
                  cases c with
                  | true =>
                    have HC := Lib.hid (c57 cap x y p r3 wo5 HR.out HS6.out (HX.out rfl).1 hxp hpy hyL HB3.out (HX.out rfl).2)
                    clear HX
                    go_wp2_with fail
                    refine HC.out.mono ?_
                    rintro e w2 ⟨m, R, rfl, h1, hxm, hmy, h2, h3⟩
                    have H1 := Lib.hid h1
                    have H2 := Lib.hid h2
                    have H3 : Hid (Rest a b d m y R) := fun Z z1 z2 => HE3.out Z (h3 Z z1 z2).1 (h3 Z z1 z2).2
                    clear h1 h2 h3 HC
                    go_wp2_with fail
                    go_roundw
                    case rel => exact ⟨m, y, l1, R, wb, wp, rfl, rfl, rfl, rfl, rfl, hmy, hyL, hl1, by omega, H1.out, H2.out, H3.out⟩
                    case measure => simp [intOf]; omega
                  | false =>
                    have HC := Lib.hid (c58 cap x y p r3 wo5 HR.out HS6.out hxp hpy hyL HB3.out)
                    clear HX
                    go_wp2_with fail
                    refine HC.out.mono ?_
                    rintro e w2 ⟨m, c2, R, rfl, h1, hxm, hmy, h2, h3, h4, h5⟩
                    have H1 := Lib.hid h1
                    have H2 := Lib.hid h2
                    have H3 := Lib.hid h3
                    have H4 := Lib.hid h4
                    have H5 := Lib.hid h5
                    clear h1 h2 h3 h4 h5 HC
                    obtain ⟨s1, hs1⟩ : ∃ s1, m - x = s1 := ⟨_, rfl⟩
                    have hs1I : (m : Int) - (x : Int) = (s1 : Int) := by omega
                    have ws1 : IntKind.i64.wrap (s1 : Int) = (s1 : Int) := wr64 (by omega)
                    obtain ⟨s2, hs2⟩ : ∃ s2, y - m = s2 := ⟨_, rfl⟩
                    have hs2I : (y : Int) - (m : Int) = (s2 : Int) := by omega
                    have ws2 : IntKind.i64.wrap (s2 : Int) = (s2 : Int) := wr64 (by omega)
                    obtain ⟨k8, hk8⟩ : ∃ k8, k / 8 = k8 := ⟨_, rfl⟩
                    have hk8I : (k : Int) / 8 = (k8 : Int) := by omega
                    have hk8T : (k : Int).tdiv 8 = (k8 : Int) := by rw [Int.tdiv_eq_ediv_of_nonneg (by omega)]; exact hk8I
                    have wk8 : IntKind.i64.wrap (k8 : Int) = (k8 : Int) := wr64 (by omega)
                    have wm1 : IntKind.i64.wrap ((m : Int) + 1) = (m : Int) + 1 := wr64 (by omega)
                    by_cases hless : s1 < s2
                    · have hlessI : (s1 : Int) < (s2 : Int) := by omega
                      have HC := Lib.hid (HIH.out (m - x) (by omega) x m l1 R w2 rfl hxm (by omega) hl1 H1.out H2.out)
                      go_wp2_with fail
                      refine HC.out.mono ?_
                      rintro e w3 ⟨rfl, Z, h1, h2, h3⟩
                      have G1 := Lib.hid h1
                      have G2 := Lib.hid (H4.out Z h2 h3).1
                      have G3 : Hid (Rest a b d (m + 1) y Z) := fun Y y1 y2 => HE3.out Y ((H4.out Z h2 h3).2 Y y1 y2).1 ((H4.out Z h2 h3).2 Y y1 y2).2
                      clear h1 h2 h3 HC H4 H5 H1 H2 H3
                      go_wp2_with fail
                      go_roundw
                      case rel => exact ⟨m + 1, y, l1, Z, _, c2, by go_num, rfl, rfl, rfl, rfl, by omega, hyL, hl1, by omega, G1.out, G2.out, G3.out⟩
                      case measure => simp [intOf]; omega
                    · have hlessI : ¬ (s1 : Int) < (s2 : Int) := by omega
                      have hm1 : ((m + 1 : Nat) : Int) = (m : Int) + 1 := by omega
                      have HC0 := HIH.out (y - (m + 1)) (by omega) (m + 1) y l1 R w2 rfl (by omega) hyL hl1 H1.out H3.out
                      rw [hm1] at HC0
                      have HC := Lib.hid HC0
                      clear HC0
                      go_wp2_with fail
                      refine HC.out.mono ?_
                      rintro e w3 ⟨rfl, Z, h1, h2, h3⟩
                      have G1 := Lib.hid h1
                      have G2 := Lib.hid (H5.out Z h2 h3).1
                      have G3 : Hid (Rest a b d x m Z) := fun Y y1 y2 => HE3.out Y ((H5.out Z h2 h3).2 Y y1 y2).1 ((H5.out Z h2 h3).2 Y y1 y2).2
                      clear h1 h2 h3 HC H4 H5 H1 H2 H3
                      go_wp2_with fail
                      go_roundw
                      case rel => exact ⟨x, m, l1, Z, _, c2, rfl, rfl, rfl, rfl, rfl, hxm, by omega, hl1, by omega, G1.out, G2.out, G3.out⟩
                      case measure => simp [intOf]; omega
theorem pdq_all (blk off L cap : Nat) (w : World) (hR : RW w blk off L) (hL2 : L < 4611686018427387904) (n : Nat) : pdqSays blk off L cap w n := by
  induction n using Nat.strongRecOn with
  | ind n ih => exact pdq_step blk off L cap n w hR hL2 ih
end Go.Proofs.Yticodfdonpookaa.Su
