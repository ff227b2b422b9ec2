/- The walk of FenMore. No condition. -/
import Derived.Test.YtkljkogcahmaaaaAl
import Derived.Test.YtkljkogcahmaaaaClone
set_option linter.unusedSimpArgs false
set_option linter.unusedVariables false
namespace Go.Proofs.Ytkljkogcahmaaaa.fenMore
open Go.RowKit Go.Proofs.Ytkljkogcahmaaaa
theorem set_get (zs : List Int) (k i : Nat) (y : Int) (hk : k < zs.length) : (zs.set k y).getD i 0 = if i = k then y else zs.getD i 0 := by
  simp only [List.getD_eq_getElem?_getD, List.getElem?_set]
  by_cases e : k = i
  · subst e; simp [hk]
  · rw [if_neg e, if_neg (fun h => e h.symm)]
theorem walk_skip (v : Value) (zs : List Int) (k m : Int) (w : World) (h : Rd w v zs) (hs : ¬ (0 ≤ k ∧ k < zs.length ∧ 0 ≤ m ∧ m ≤ 1000)) :
    Calls Try.prog 6 #[v, .int .i64 k, .int .i64 m] w fun e w' => e = .returned (.bool true) ∧ Below w.heap.size w w' := by
  obtain ⟨a, cap, rfl, hlc, hcm, -⟩ := h.open
  clear h
  generalize zs.length = n at *
  by_cases h1 : k < 0
  · have e1 : decide (k < 0) = true := decide_eq_true h1
    clear hs
    go_enter Try.func6, Try.ntmps6
    go_wp2_with fail
    refine (alive_any _).mono ?_
    rintro e w1 ⟨rfl, hb1⟩
    go_wp2_with fail
    go_ret
    exact ⟨rfl, hb1⟩
  have e1 : decide (k < 0) = false := decide_eq_false h1
  by_cases h2 : (n : Int) ≤ k
  · have e2 : decide ((n : Int) ≤ k) = true := decide_eq_true h2
    clear hs
    go_enter Try.func6, Try.ntmps6
    go_wp2_with fail
    refine (alive_any _).mono ?_
    rintro e w1 ⟨rfl, hb1⟩
    go_wp2_with fail
    go_ret
    exact ⟨rfl, hb1⟩
  have e2 : decide ((n : Int) ≤ k) = false := decide_eq_false h2
  by_cases h3 : m < 0
  · have e3 : decide (m < 0) = true := decide_eq_true h3
    clear hs
    go_enter Try.func6, Try.ntmps6
    go_wp2_with fail
    refine (alive_any _).mono ?_
    rintro e w1 ⟨rfl, hb1⟩
    go_wp2_with fail
    go_ret
    exact ⟨rfl, hb1⟩
  have e3 : decide (m < 0) = false := decide_eq_false h3
  have e4 : decide (1000 < m) = true := decide_eq_true (by omega)
  clear hs
  go_enter Try.func6, Try.ntmps6
  go_wp2_with fail
  refine (alive_any _).mono ?_
  rintro e w1 ⟨rfl, hb1⟩
  go_wp2_with fail
  go_ret
  exact ⟨rfl, hb1⟩
set_option maxHeartbeats 1600000 in
theorem walk_main (v : Value) (zs : List Int) (k m : Nat) (w : World) (h : Rd w v zs) (hr : zs.length * 8 ≤ 140737488355328) (hk : k < zs.length) (hm : m ≤ 1000) :
    Calls Try.prog 6 #[v, .int .i64 k, .int .i64 m] w fun e w' => e = .returned (.bool true) ∧ Below w.heap.size w w' := by
  have HR := Lib.hid h
  have HCL := Lib.hid (fun w h => clone_any v zs w h hr)
  have HB0 := Lib.hid (fun v w zs h hk => sums_bad v zs w h hk)
  have HS0 := Lib.hid (fun v w zs h hk => sums_ok v zs w h hk)
  obtain ⟨a, cap, rfl, hlc, hcm, -⟩ := h.open
  clear h
  have e1 : decide ((k : Int) < 0) = false := decide_eq_false (by omega)
  have e2 : decide (zs.length ≤ k) = false := decide_eq_false (by omega)
  have e3 : decide ((m : Int) < 0) = false := decide_eq_false (by omega)
  have e4 : decide (1000 < (m : Int)) = false := decide_eq_false (by omega)
  go_enter Try.func6, Try.ntmps6
  go_wp2_with fail
  refine (alive_any _).mono ?_
  rintro e w1 ⟨rfl, hb1⟩
  have HB1 := Lib.hid hb1
  have HR1 := Lib.hid (HR.out.below hb1 (Nat.le_refl _))
  clear hb1
  go_wp2_with fail
  refine (HCL.out _ HR1.out).mono ?_
  rintro e w2 ⟨v2, rfl, hown, hb2⟩
  obtain ⟨g, cap2, rfl, hc1, hc2, hg1, hg2, -⟩ := own_open hown (by omega)
  have ck := own_get hown k hk
  have fr := World.ownsRow.frozenAt hown k
  have HB3 := Lib.hid (HB1.out.trans ((hb2.setCell hg1 (p := ⟨g, k, none⟩) (.int .i64 (wrap64 (zs.getD k 0 + (m : Int))))).mono HB1.out.size))
  have HR3 := Lib.hid (HR1.out.below (hb2.setCell hg1 (p := ⟨g, k, none⟩) (.int .i64 (wrap64 (zs.getD k 0 + (m : Int))))) (Nat.le_refl _))
  have HO3 := Lib.hid (Rd.own (own_set hown k (wrap64 (zs.getD k 0 + (m : Int)))))
  clear hown hb2
  generalize hx : zs.getD k 0 = x at *
  have HX := Lib.hid hx
  clear hx
  go_wp2_with fail
  generalize hy : wrap64 (x + (m : Int)) = y at *
  have HY := Lib.hid hy
  clear hy
  generalize w2.setCell ⟨g, k, none⟩ (.int .i64 y) = w3 at *
  by_cases hok : OkL zs
  · by_cases hok2 : OkL (zs.set k y)
    · have H1 := Lib.hid (HS0.out _ _ _ HR3.out hok)
      have H2 := Lib.hid (fun w h => HS0.out (.slice (some ⟨g, 0, none⟩) zs.length cap2) w (zs.set k y) h hok2)
      have hxn : x = (nd zs k : Int) := by rw [← HX.out]; exact hok.nd hk
      have hyn : y = (nd zs k : Int) + m := by
        have := hok.le k
        rw [← HY.out, hxn, wrap64]; omega
      have HT : Hid (∀ i, (tot (nd (zs.set k y)) i : Nat) = tot (nd zs) i + if k < i then m else 0) := fun i => by
        have := tot_one (f := nd zs) (g := nd (zs.set k y)) (k := k) (fun i hi => by unfold nd; rw [set_get _ _ _ _ hk, if_neg hi]) i
        have e : nd (zs.set k y) k = nd zs k + m := by
          show ((zs.set k y).getD k 0).toNat = _
          rw [set_get _ _ _ _ hk, if_pos rfl, hyn]; omega
        rw [e] at this
        by_cases h : k < i
        · rw [if_pos h] at this ⊢; omega
        · rw [if_neg h] at this ⊢; omega
      have HTB : Hid (∀ i, i ≤ 400 → tot (nd zs) i ≤ 429496729600) := fun i hi => tot_cap hok.le hi
      have hl := hok.1
      have HL2 : Hid ((zs.set k y).length = zs.length) := by show _ = _; simp
      have L1 : (sumsL zs).length = zs.length + 1 := tabI_len _ _
      have L2 : (sumsL (zs.set k y)).length = zs.length + 1 := by unfold sumsL; rw [tabI_len, HL2.out]
      have G1 : Hid (∀ i, i < zs.length + 1 → (sumsL zs).getD i 0 = (tot (nd zs) i : Int)) := fun i hi => tabI_get _ _ _ hi
      have G2 : Hid (∀ i, i < zs.length + 1 → (sumsL (zs.set k y)).getD i 0 = ((tot (nd zs) i + if k < i then m else 0 : Nat) : Int)) := fun i hi => by
        unfold sumsL; rw [tabI_get _ _ _ (by rw [HL2.out]; exact hi), HT.out]
      generalize sumsL zs = l1 at *
      generalize sumsL (zs.set k y) = l2 at *
      clear hok hok2 hxn hyn
      refine H1.out.mono ?_
      rintro e w4 ⟨hb4, u, rfl, hr4⟩
      have HB4 := Lib.hid (HB3.out.trans (hb4.mono HB3.out.size))
      have HO4 := Lib.hid (HO3.out.below hb4 (Nat.le_refl _))
      have HR4 := Lib.hid hr4
      clear hb4 hr4
      go_wp2_with fail
      refine (H2.out _ HO4.out).mono ?_
      rintro e w5 ⟨hb5, u2, rfl, hr5⟩
      have HB5 := Lib.hid (HB4.out.trans (hb5.mono HB4.out.size))
      have hr45 := HR4.out.below hb5 (Nat.le_refl _)
      obtain ⟨a1, q1, rfl, hlq1, hq1, hop1⟩ := hr45.open
      obtain ⟨a2, q2, rfl, hlq2, hq2, hop2⟩ := hr5.open
      rw [L1] at hlq1 hop1 ⊢
      rw [L2] at hlq2 hop2 ⊢
      have HOP1 := Lib.hid hop1
      have HOP2 := Lib.hid hop2
      clear hb5 hr45 hr5 hop1 hop2 HB4 HR4 HO4 H1 H2
      generalize zs.length = n at *
      go_wp2_with fail
      go_loopw [59, 12, 13] (fun iv b c wr => ∃ i : Nat, i ≤ n + 1 ∧ iv = .int .i64 i ∧ ∃ k, wr = w5.drewN k) (fun iv _ _ _ => n + 1 - (intOf iv).toNat)
      case atStart => exact ⟨0, Nat.zero_le _, rfl, 0, rfl⟩
      case round =>
        obtain ⟨i, hi, rfl, hkk⟩ := hrel
        have HKK := Lib.hid hkk
        by_cases hlt : i < n + 1
        · obtain ⟨b1, o1, rfl, hbl1, hcc1⟩ := HOP1.out i hlt
          obtain ⟨b2, o2, rfl, hbl2, hcc2⟩ := HOP2.out i hlt
          have d1 := hcc1 i hlt
          have d2 := hcc2 i hlt
          have d1 : wr.cell? ⟨b1, o1 + i, none⟩ = some (.int .i64 (l1.getD i 0)) := by rw [hkk.choose_spec]; exact d1
          have d2 : wr.cell? ⟨b2, o2 + i, none⟩ = some (.int .i64 (l2.getD i 0)) := by rw [hkk.choose_spec]; exact d2
          rw [G1.out i hlt] at d1
          rw [G2.out i hlt] at d2
          have tb := HTB.out i (by omega)
          clear hcc1 hcc2 hkk
          generalize tot (nd zs) i = S at *
          by_cases hki : k < i
          · rw [if_pos hki] at d2
            have f1 : decide ((k : Int) < i) = true := decide_eq_true (by omega)
            have f2 : IntKind.i64.wrap ((S : Int) + (m : Int)) = (S : Int) + (m : Int) := by rw [IntKind.wrap_i64]; omega
            have f3 : ((n : Int) + 1 ≤ (i : Int)) = False := eq_false (by omega)
            go_wp2_with fail
            go_quiet (fail)
            go_wp2_with fail
            exact ⟨⟨i + 1, by omega, by go_num, by obtain ⟨k, rfl⟩ := HKK.out; exact ⟨_, World.drewN_drewN _ _ _⟩⟩, by simp [intOf]; omega⟩
          · rw [if_neg hki] at d2
            have f1 : decide ((k : Int) < i) = false := decide_eq_false (by omega)
            have f2 : IntKind.i64.wrap (S : Int) = (S : Int) := by rw [IntKind.wrap_i64]; omega
            have f3 : ((n : Int) + 1 ≤ (i : Int)) = False := eq_false (by omega)
            go_wp2_with fail
            go_quiet (fail)
            go_wp2_with fail
            exact ⟨⟨i + 1, by omega, by go_num, by obtain ⟨k, rfl⟩ := HKK.out; exact ⟨_, World.drewN_drewN _ _ _⟩⟩, by simp [intOf]; omega⟩
        · obtain rfl : i = n + 1 := by omega
          clear hkk
          go_wp2_with fail
          go_ret
          obtain ⟨k, rfl⟩ := HKK.out
          exact ⟨by simp, HB5.out.drewN _⟩
    · have H1 := Lib.hid (HS0.out _ _ _ HR3.out hok)
      have HB' := Lib.hid (fun w h => HB0.out (.slice (some ⟨g, 0, none⟩) zs.length cap2) w (zs.set k y) h hok2)
      clear hok hok2
      refine H1.out.mono ?_
      rintro e w4 ⟨hb4, u, rfl, hr4⟩
      have HB4 := Lib.hid (HB3.out.trans (hb4.mono HB3.out.size))
      have HO4 := Lib.hid (HO3.out.below hb4 (Nat.le_refl _))
      clear hb4 hr4
      go_wp2_with fail
      refine (HB'.out _ HO4.out).mono ?_
      rintro e w5 ⟨rfl, rfl⟩
      go_wp2_with fail
      go_ret
      exact ⟨rfl, HB4.out⟩
  · have H1 := Lib.hid (HB0.out _ _ _ HR3.out hok)
    clear hok
    refine H1.out.mono ?_
    rintro e w4 ⟨rfl, rfl⟩
    go_wp2_with fail
    by_cases hok2 : OkL (zs.set k y)
    · have H2 := Lib.hid (HS0.out _ _ _ HO3.out hok2)
      clear hok2
      refine H2.out.mono ?_
      rintro e w5 ⟨hb5, u, rfl, hr5⟩
      have HB5 := Lib.hid (HB3.out.trans (hb5.mono HB3.out.size))
      clear hb5 hr5
      go_wp2_with fail
      go_ret
      exact ⟨rfl, HB5.out⟩
    · have H2 := Lib.hid (HB0.out _ _ _ HO3.out hok2)
      clear hok2
      refine H2.out.mono ?_
      rintro e w5 ⟨rfl, rfl⟩
      go_wp2_with fail
      go_ret
      exact ⟨rfl, HB3.out⟩
theorem walk (a0 : Option Addr) (len0 cap0 : Nat) (z0 : List Int) (a1 a2 : Int) (w : World) (w0 : IsRow .i64 w a0 len0 cap0 z0) (r0 : len0 * 8 ≤ 140737488351232) (_ : (Lit.int .i64 a1).wf = true) (_ : (Lit.int .i64 a2).wf = true) :
    Calls Try.prog 6 #[.slice a0 len0 cap0, .int .i64 a1, .int .i64 a2] w fun e w' => e = .returned (.bool true) ∧ Below w.heap.size w w' := by
  have h := w0.rd.1
  by_cases hx : 0 ≤ a1 ∧ a1 < ((z0.take len0).length : Int) ∧ 0 ≤ a2 ∧ a2 ≤ 1000
  · obtain ⟨k, rfl⟩ : ∃ k : Nat, a1 = k := ⟨a1.toNat, by omega⟩
    obtain ⟨m, rfl⟩ : ∃ m : Nat, a2 = m := ⟨a2.toNat, by omega⟩
    exact walk_main _ _ k m w h (by rw [List.length_take]; omega) (by omega) (by omega)
  · exact walk_skip _ _ a1 a2 w h hx
end Go.Proofs.Ytkljkogcahmaaaa.fenMore
