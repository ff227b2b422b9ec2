/- The walk of BayesOn. No condition. -/
import Derived.Test.YtmhkbcfdcbbdgaaLaw
import Derived.Test.YtmhkbcfdcbbdgaaMax
set_option linter.unusedSimpArgs false
set_option linter.unusedVariables false
namespace Go.Proofs.Ytmhkbcfdcbbdgaa.bayesOn
open Go.RowKit Go.Proofs.Ytmhkbcfdcbbdgaa
theorem seen_iff (n0 : Nat) (ms : List Int) : Seen n0 ms ↔ ∀ x ∈ ms, 0 ≤ x ∧ x < n0 := by
  constructor
  · intro h x hx
    obtain ⟨i, hi, rfl⟩ := List.getElem_of_mem hx
    have := h i hi
    rwa [List.getD_eq_getElem?_getD, List.getElem?_eq_getElem hi] at this
  · intro h i hi
    rw [List.getD_eq_getElem?_getD, List.getElem?_eq_getElem hi]
    exact h _ (List.getElem_mem hi)
theorem parts {zs : List Int} {zss : List (List Int)} {xs ys : List Int} (h : seeE zs zss (xs ++ ys) = 0) : seeE zs zss xs = 0 ∧ OkB zs zss ∧ ys.length ≤ 12 ∧ Seen (zss.getD 0 []).length ys := by
  obtain ⟨h1, h2, h3⟩ := seeE_cases _ _ _ h
  rw [List.length_append] at h2
  rw [seen_iff] at h3
  refine ⟨seeE_ok (wrF_zero.2 h1) (by omega) ((seen_iff _ _).2 fun x hx => h3 x (by simp [hx])), h1, by omega, (seen_iff _ _).2 fun x hx => h3 x (by simp [hx])⟩
theorem then_eq (zs : List Int) (zss : List (List Int)) (xs ys : List Int) :
    tabI zs.length (seeT (tabI zs.length (seeT zs zss xs)) zss ys) = tabI zs.length (seeT zs zss (xs ++ ys)) :=
  tabI_congr fun k hk => by
    have e1 := seeT_eq (tabI zs.length (seeT zs zss xs)) zss ys (i := k) (by rw [tabI_len]; exact hk)
    rw [tabI_len] at e1
    rw [e1, seeT_eq _ _ _ hk]
    have e2 : lw (fun k => nd (tabI zs.length (seeT zs zss xs)) k * prd zss k ys) zs.length k = lw (fun k => lw (fun k => nd zs k * prd zss k xs) zs.length k * prd zss k ys) zs.length k :=
      lw_congr (fun i hi => by rw [nd_tabI, if_pos hi, seeT_eq _ _ _ hi]) hk
    rw [e2, lw_mul _ _ hk]
    exact lw_congr (fun i _ => by rw [prd_append, Nat.mul_assoc]) hk
/-- What is known as a prior: right, or something in it is too great. -/
theorem again {zs : List Int} {zss : List (List Int)} (h : OkB zs zss) (T : Nat → Nat) : wrF (tabI zs.length T) zss = 0 ∨ (wrF (tabI zs.length T) zss = 2 ∧ ∃ k, k < zs.length ∧ 1000 < T k) := by
  obtain ⟨h1, h2, h3, h4⟩ := h
  by_cases hT : ∃ k, k < zs.length ∧ 1000 < T k
  · rcases wrF_two (zs := tabI zs.length T) (zss := zss) (by rw [tabI_len, h1]) (fun k hk => (h4 k (by omega)).2.2.1) with e | e
    · exact .inl e
    · exact .inr ⟨e, hT⟩
  · refine .inl (wrF_zero.2 ⟨by rw [tabI_len, h1], by rw [tabI_len]; exact h2, by rw [tabI_len]; exact h3, fun k hk => ?_⟩)
    rw [tabI_len] at hk
    rw [tabI_get _ _ _ hk]
    refine ⟨by omega, ?_, (h4 k hk).2.2⟩
    rcases Nat.lt_or_ge 1000 (T k) with h | h
    · exact absurd ⟨k, hk, h⟩ hT
    · omega
set_option maxHeartbeats 3200000 in
theorem walk_any (v v2 : Value) (a3 a4 : Option Addr) (n3 n4 cap3 cap4 : Nat) (zs : List Int) (zss : List (List Int)) (xs ys : List Int) (w : World) (h : Rd w v zs) (h2 : RdM w v2 zss) (h3 : Rd w (.slice a3 n3 cap3) xs) (h4 : Rd w (.slice a4 n4 cap4) ys)
    (hn3 : a3 = none → n3 = 0 ∧ cap3 = 0) (hn4 : a4 = none → n4 = 0 ∧ cap4 = 0) (hb : (n3 + n4) * 8 ≤ 281474976710656) :
    Calls Try.prog 7 #[v, v2, .slice a3 n3 cap3, .slice a4 n4 cap4] w fun e w' => e = .returned (.bool true) ∧ Below w.heap.size w w' := by
  have HS := Lib.hid (fun v zs v3 ns w h h2 h3 => see_any v v2 v3 zs zss ns w h h2 h3)
  have HR := Lib.hid h
  have HR2 := Lib.hid h2
  have HR3 := Lib.hid h3
  have HR4 := Lib.hid h4
  have HCC := Lib.hid (fun b w hr1 hr2 hk1 hk2 hbb => concati_any b n3 cap3 n4 cap4 a3 a4 xs ys w hr1 hr2 hn3 hn4 hk1 hk2 hbb hb)
  clear h h2 h3 h4 hn3 hn4 hb
  go_enter Try.func7, Try.ntmps7
  go_wp2_with fail
  refine (alive_any _).mono ?_
  rintro e w1 ⟨rfl, hb1⟩
  have HB1 := Lib.hid hb1
  have HA1 := Lib.hid (HR.out.below hb1 (Nat.le_refl _))
  have HA2 := Lib.hid (HR2.out.below hb1 (Nat.le_refl _))
  have HA3 := Lib.hid (HR3.out.below hb1 (Nat.le_refl _))
  have HA4 := Lib.hid (HR4.out.below hb1 (Nat.le_refl _))
  clear hb1
  go_wp2_with fail
  refine (HCC.out w1.heap.size _ (HA3.out.alloc _) (HA4.out.alloc _) (by rw [cell_of_row _ _ _ _ _ _ (heap_alloc_new w1 _)]; rfl) (by rw [cell_of_row _ _ _ _ _ _ (heap_alloc_new w1 _)]; rfl) (by simp)).mono ?_
  rintro e w2 ⟨hb2, vc, rfl, hrc⟩
  have hb2' : Below w1.heap.size w1 w2 := ((Below.refl _ _).alloc (Nat.le_refl _) _).trans (hb2.mono (by simp))
  have HB2 := Lib.hid (HB1.out.trans (hb2'.mono HB1.out.size))
  have HC1 := Lib.hid (HA1.out.below hb2' (Nat.le_refl _))
  have HC2 := Lib.hid (HA2.out.below hb2' (Nat.le_refl _))
  have HC3 := Lib.hid (HA3.out.below hb2' (Nat.le_refl _))
  have HC4 := Lib.hid (HA4.out.below hb2' (Nat.le_refl _))
  have HCR := Lib.hid hrc
  clear hb2 hb2' hrc
  go_wp2_with fail
  refine (HS.out _ _ _ _ _ HC1.out HC2.out HCR.out).mono ?_
  rintro e w3 ⟨hb3, hp3⟩
  have HB3 := Lib.hid (HB2.out.trans (hb3.mono HB2.out.size))
  have HD1 := Lib.hid (HC1.out.below hb3 (Nat.le_refl _))
  have HD2 := Lib.hid (HC2.out.below hb3 (Nat.le_refl _))
  have HD3 := Lib.hid (HC3.out.below hb3 (Nat.le_refl _))
  have HD4 := Lib.hid (HC4.out.below hb3 (Nat.le_refl _))
  clear hb3
  by_cases he : seeE zs zss (xs ++ ys) = 0
  · obtain ⟨hx0, hok, hy12, hys⟩ := parts he
    obtain ⟨u, rfl, hu⟩ := hp3.2 he
    have HU := Lib.hid hu
    have HOK := Lib.hid hok
    have HYS := Lib.hid hys
    clear hp3 hu hys
    go_wp2_with fail
    refine (HS.out _ _ _ _ _ HD1.out HD2.out HD3.out).mono ?_
    rintro e w4 ⟨hb4, hp4⟩
    obtain ⟨u1, rfl, hu1⟩ := hp4.2 hx0
    have HB4 := Lib.hid (HB3.out.trans (hb4.mono HB3.out.size))
    have HE2 := Lib.hid (HD2.out.below hb4 (Nat.le_refl _))
    have HE4 := Lib.hid (HD4.out.below hb4 (Nat.le_refl _))
    have HU4 := Lib.hid (HU.out.below hb4 (Nat.le_refl _))
    have HU1 := Lib.hid hu1
    clear hb4 hp4 hu1 hx0 he
    go_wp2_with fail
    refine (HS.out _ _ _ _ _ HU1.out HE2.out HE4.out).mono ?_
    rintro e w5 ⟨hb5, hp5⟩
    have HB5 := Lib.hid (HB4.out.trans (hb5.mono HB4.out.size))
    have HU5 := Lib.hid (HU4.out.below hb5 (Nat.le_refl _))
    have HU15 := Lib.hid (HU1.out.below hb5 (Nat.le_refl _))
    clear hb5
    rcases again hok (seeT zs zss xs) with hw | ⟨hw, k, hk, hk1⟩
    · obtain ⟨u2, rfl, hu2⟩ := hp5.2 (seeE_ok hw (by omega) HYS.out)
      rw [tabI_len, then_eq] at hu2
      have HU2 := Lib.hid hu2
      clear hp5 hw hu2
      go_wp2_with fail
      refine (equal_any _ _ _ _ _ HU5.out HU2.out).mono ?_
      rintro e w6 ⟨rfl, hb6⟩
      have HB6 := Lib.hid (HB5.out.trans (hb6.mono HB5.out.size))
      clear hb6
      go_wp2_with fail
      go_ret
      exact ⟨by simp, HB6.out⟩
    · have he2 : seeE (tabI zs.length (seeT zs zss xs)) zss ys = 2 := by rw [seeE_bad (by omega), hw]
      have h1 := hp5.1 (by omega)
      rw [he2] at h1
      subst h1
      have hk0 : 0 < (tabI zs.length (seeT zs zss xs)).length := by rw [tabI_len]; omega
      have HMX : Hid (∀ m : Int, (∀ k, k < (tabI zs.length (seeT zs zss xs)).length → (tabI zs.length (seeT zs zss xs)).getD k 0 ≤ m) → 1000 < m) := fun m hm => by
        have := hm k (by rw [tabI_len]; exact hk)
        rw [tabI_get _ _ _ hk] at this
        omega
      clear hp5 hw he2 hk hk1
      go_wp2_with fail
      refine (max_any _ _ _ HU15.out hk0).mono ?_
      rintro e w6 ⟨m, rfl, hm, rfl⟩
      have f1 : decide (1000 < m) = true := decide_eq_true (HMX.out m hm)
      clear hm
      go_wp2_with fail
      go_ret
      exact ⟨by simp, HB5.out⟩
  · have h1 := hp3.1 he
    subst h1
    have hle := seeE_le zs zss (xs ++ ys)
    generalize seeE zs zss (xs ++ ys) = x at *
    have f1 : ((x : Int) == 0) = false := by rw [beq_eq_false_iff_ne]; omega
    clear hp3
    go_wp2_with fail
    refine (HS.out _ _ _ _ _ HD1.out HD2.out HD3.out).mono ?_
    rintro e w4 ⟨hb4, hp4⟩
    have HB4 := Lib.hid (HB3.out.trans (hb4.mono HB3.out.size))
    clear hb4
    by_cases hx : seeE zs zss xs = 0
    · obtain ⟨u1, rfl, -⟩ := hp4.2 hx
      clear hp4 hx
      go_wp2_with fail
      go_ret
      exact ⟨by simp, HB4.out⟩
    · have h1 := hp4.1 hx
      subst h1
      clear hp4 hx
      generalize seeE zs zss xs = y at *
      go_wp2_with fail
      go_ret
      exact ⟨by simp, HB4.out⟩
theorem isrow_nil {w : World} {a : Option Addr} {len cap : Nat} {zs : List Int} (h : IsRow .i64 w a len cap zs) : a = none → len = 0 ∧ cap = 0 := by
  intro e
  rcases h with ⟨_, h1, h2, _⟩ | ⟨x, h1, _⟩
  · exact ⟨h1, h2⟩
  · rw [e] at h1; cases h1
theorem walk (a0 : Option Addr) (len0 cap0 : Nat) (z0 : List Int) (x1 : Option Addr × Nat × Nat × List (List Int)) (a2 : Option Addr) (len2 cap2 : Nat) (z2 : List Int) (a3 : Option Addr) (len3 cap3 : Nat) (z3 : List Int) (w : World) (w0 : IsRow .i64 w a0 len0 cap0 z0) (w1 : RdM w (.slice x1.1 x1.2.1 x1.2.2.1) x1.2.2.2) (w2 : IsRow .i64 w a2 len2 cap2 z2) (r2 : len2 * 8 ≤ 140737488351232) (w3 : IsRow .i64 w a3 len3 cap3 z3) (r3 : len3 * 8 ≤ 140737488351232) :
    Calls Try.prog 7 #[.slice a0 len0 cap0, .slice x1.1 x1.2.1 x1.2.2.1, .slice a2 len2 cap2, .slice a3 len3 cap3] w fun e w' => e = .returned (.bool true) ∧ Below w.heap.size w w' :=
  walk_any _ _ _ _ _ _ _ _ _ _ _ _ w w0.rd.1 w1 w2.rd.1 w3.rd.1 (isrow_nil w2) (isrow_nil w3) (by omega)
end Go.Proofs.Ytmhkbcfdcbbdgaa.bayesOn
