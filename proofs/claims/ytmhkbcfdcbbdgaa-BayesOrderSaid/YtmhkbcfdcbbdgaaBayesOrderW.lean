/- The walk of BayesOrder. No condition. -/
import Derived.Test.YtmhkbcfdcbbdgaaLaw
import Derived.Test.YtmhkbcfdcbbdgaaReverse
set_option linter.unusedSimpArgs false
set_option linter.unusedVariables false
namespace Go.Proofs.Ytmhkbcfdcbbdgaa.bayesOrder
open Go.RowKit Go.Proofs.Ytmhkbcfdcbbdgaa
theorem seen_reverse {n0 : Nat} {ns : List Int} : Seen n0 ns.reverse ↔ Seen n0 ns := by
  have h : ∀ ms : List Int, Seen n0 ms ↔ ∀ x ∈ ms, 0 ≤ x ∧ x < n0 := fun ms => by
    constructor
    · intro h x hx
      obtain ⟨i, hi, rfl⟩ := List.getElem_of_mem hx
      have := h i hi
      rwa [List.getD_eq_getElem?_getD, List.getElem?_eq_getElem hi] at this
    · intro h i hi
      rw [List.getD_eq_getElem?_getD, List.getElem?_eq_getElem hi]
      exact h _ (List.getElem_mem hi)
  rw [h, h]
  simp
theorem seeE_reverse (zs : List Int) (zss : List (List Int)) (ns : List Int) : seeE zs zss ns.reverse = seeE zs zss ns := by
  by_cases h1 : wrF zs zss = 0
  · by_cases h2 : 12 < ns.length
    · rw [seeE_many h1 h2, seeE_many h1 (by simpa using h2)]
    · by_cases h3 : Seen (zss.getD 0 []).length ns
      · rw [seeE_ok h1 h2 h3, seeE_ok h1 (by simpa using h2) (seen_reverse.2 h3)]
      · rw [seeE_none h1 h2 h3, seeE_none h1 (by simpa using h2) (fun h => h3 (seen_reverse.1 h))]
  · rw [seeE_bad h1, seeE_bad h1]
theorem seeT_reverse (zs : List Int) (zss : List (List Int)) (ns : List Int) : tabI zs.length (seeT zs zss ns.reverse) = tabI zs.length (seeT zs zss ns) :=
  tabI_congr fun k hk => by
    rw [seeT_eq _ _ _ hk, seeT_eq _ _ _ hk]
    exact lw_congr (fun i _ => by rw [prd_reverse]) hk
set_option maxHeartbeats 1600000 in
theorem walk_any (v v2 v3 : Value) (zs : List Int) (zss : List (List Int)) (ns : List Int) (w : World) (h : Rd w v zs) (h2 : RdM w v2 zss) (h3 : Rd w v3 ns) (hb : ns.length * 8 ≤ 140737488355328) :
    Calls Try.prog 6 #[v, v2, v3] w fun e w' => e = .returned (.bool true) ∧ Below w.heap.size w w' := by
  have HS := Lib.hid (fun v3 ns w h h2 h3 => see_any v v2 v3 zs zss ns w h h2 h3)
  have HR := Lib.hid h
  have HR2 := Lib.hid h2
  have HR3 := Lib.hid h3
  have HCL := Lib.hid (fun w h => clone_any v3 ns w h hb)
  have HER := Lib.hid (seeE_reverse zs zss ns)
  have HTR := Lib.hid (seeT_reverse zs zss ns)
  clear h h2 h3
  go_enter Try.func6, Try.ntmps6
  go_wp2_with fail
  refine (alive_any _).mono ?_
  rintro e w1 ⟨rfl, hb1⟩
  have HB1 := Lib.hid hb1
  have HA1 := Lib.hid (HR.out.below hb1 (Nat.le_refl _))
  have HA2 := Lib.hid (HR2.out.below hb1 (Nat.le_refl _))
  have HA3 := Lib.hid (HR3.out.below hb1 (Nat.le_refl _))
  clear hb1
  go_wp2_with fail
  refine (HCL.out _ HA3.out).mono ?_
  rintro e w2 ⟨vb, rfl, ho2, hb2⟩
  have HO2 := Lib.hid ho2
  have HB2 := Lib.hid hb2
  clear ho2 hb2
  go_wp2_with fail
  refine (rev_ok _ _ _ _ _ HO2.out).mono ?_
  rintro e w3 ⟨rfl, hb3, ho3⟩
  have hb13 := HB2.out.trans hb3
  have HB3 := Lib.hid (HB1.out.trans (hb13.mono HB1.out.size))
  have HC1 := Lib.hid (HA1.out.below hb13 (Nat.le_refl _))
  have HC2 := Lib.hid (HA2.out.below hb13 (Nat.le_refl _))
  have HC3 := Lib.hid (HA3.out.below hb13 (Nat.le_refl _))
  have HCB := Lib.hid (Rd.own ho3)
  clear hb13 hb3 ho3
  go_wp2_with fail
  refine (HS.out _ _ _ HC1.out HC2.out HC3.out).mono ?_
  rintro e w4 ⟨hb4, hp4⟩
  have HB4 := Lib.hid (HB3.out.trans (hb4.mono HB3.out.size))
  have HD1 := Lib.hid (HC1.out.below hb4 (Nat.le_refl _))
  have HD2 := Lib.hid (HC2.out.below hb4 (Nat.le_refl _))
  have HDB := Lib.hid (HCB.out.below hb4 (Nat.le_refl _))
  clear hb4
  by_cases he : seeE zs zss ns = 0
  · obtain ⟨u, rfl, hu⟩ := hp4.2 he
    have HU := Lib.hid hu
    clear hp4 hu
    go_wp2_with fail
    refine (HS.out _ _ _ HD1.out HD2.out HDB.out).mono ?_
    rintro e w5 ⟨hb5, hp5⟩
    obtain ⟨u2, rfl, hu2⟩ := hp5.2 (by rw [HER.out]; exact he)
    rw [HTR.out] at hu2
    have HB5 := Lib.hid (HB4.out.trans (hb5.mono HB4.out.size))
    have HU1 := Lib.hid (HU.out.below hb5 (Nat.le_refl _))
    have HU2 := Lib.hid hu2
    clear hu2 hp5 hb5 he
    go_wp2_with fail
    refine (equal_any _ _ _ _ _ HU1.out HU2.out).mono ?_
    rintro e w6 ⟨rfl, hb6⟩
    have HB6 := Lib.hid (HB5.out.trans (hb6.mono HB5.out.size))
    clear hb6
    go_wp2_with fail
    go_ret
    exact ⟨by simp, HB6.out⟩
  · have h1 := hp4.1 he
    subst h1
    have hle := seeE_le zs zss ns
    have HE2 := Lib.hid (hp4.2)
    clear hp4
    go_wp2_with fail
    refine (HS.out _ _ _ HD1.out HD2.out HDB.out).mono ?_
    rintro e w5 ⟨hb5, hp5⟩
    have h1 := hp5.1 (by rw [HER.out]; exact he)
    rw [HER.out] at h1
    subst h1
    have HB5 := Lib.hid (HB4.out.trans (hb5.mono HB4.out.size))
    clear hp5 hb5 HER HE2
    generalize seeE zs zss ns = x at *
    go_wp2_with fail
    refine (equal_any _ _ [] [] _ (Rd.nil _) (Rd.nil _)).mono ?_
    rintro e w6 ⟨rfl, hb6⟩
    have HB6 := Lib.hid (HB5.out.trans (hb6.mono HB5.out.size))
    clear hb6
    go_wp2_with fail
    go_ret
    exact ⟨by simp, HB6.out⟩
theorem walk (a0 : Option Addr) (len0 cap0 : Nat) (z0 : List Int) (x1 : Option Addr × Nat × Nat × List (List Int)) (a2 : Option Addr) (len2 cap2 : Nat) (z2 : List Int) (w : World) (w0 : IsRow .i64 w a0 len0 cap0 z0) (w1 : RdM w (.slice x1.1 x1.2.1 x1.2.2.1) x1.2.2.2) (w2 : IsRow .i64 w a2 len2 cap2 z2) (r2 : len2 * 8 ≤ 140737488351232) :
    Calls Try.prog 6 #[.slice a0 len0 cap0, .slice x1.1 x1.2.1 x1.2.2.1, .slice a2 len2 cap2] w fun e w' => e = .returned (.bool true) ∧ Below w.heap.size w w' :=
  walk_any _ _ _ _ _ _ w w0.rd.1 w1 w2.rd.1 (by rw [List.length_take]; omega)
end Go.Proofs.Ytmhkbcfdcbbdgaa.bayesOrder
