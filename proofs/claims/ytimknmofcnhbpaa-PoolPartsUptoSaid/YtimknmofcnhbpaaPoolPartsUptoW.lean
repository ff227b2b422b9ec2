/- The walk of PoolParts. Condition: lists of at most 2^20. -/
import Derived.Test.YtimknmofcnhbpaaSame
set_option linter.unusedSimpArgs false
set_option linter.unusedVariables false
namespace Go.Proofs.Ytimknmofcnhbpaa.poolParts
open Go.RowKit Go.Proofs.Ytimknmofcnhbpaa
set_option maxHeartbeats 3200000 in
set_option maxRecDepth 20000 in
theorem run (r x d : Int) (a1 a2 : Option Addr) (n1 n2 c1 c2 : Nat) (l ds : List Int) (w : World) (h1 : Rd w (.slice a1 n1 c1) l) (h2 : Rd w (.slice a2 n2 c2) ds) (hb1 : n1 ≤ 1048576) (hb2 : n2 ≤ 1048576) :
    Calls Try.prog 5 #[.int .i64 r, .slice a1 n1 c1, .slice a2 n2 c2, .int .i64 x, .int .i64 d] w fun e w' => e = .returned (.bool true) ∧ Below w.heap.size w w' := by
  have hl1 : l.length = n1 := by obtain ⟨_, _, he, -⟩ := h1.slice; cases he; rfl
  have hl2 : ds.length = n2 := by obtain ⟨_, _, he, -⟩ := h2.slice; cases he; rfl
  have HL := Lib.hid h1
  have HD := Lib.hid h2
  have HLN := Lib.hid hl1
  have HDN := Lib.hid hl2
  clear h1 h2 hl1 hl2
  go_enter Try.func5, Try.ntmps5
  go_wp2_with fail
  refine (alive_any _).mono ?_
  rintro e w1 ⟨rfl, hb⟩
  have H1 := Lib.hid hb
  clear hb
  go_wp2_with fail
  refine (all_any r a1 a2 n1 n2 c1 c2 l ds _ (HL.out.below H1.out (Nat.le_refl _)) (HD.out.below H1.out (Nat.le_refl _))).mono ?_
  rintro e w2 ⟨hb, h⟩
  rw [HLN.out] at h
  rcases h with ⟨h0, v, rfl, hr⟩ | ⟨h0, rfl⟩
  · obtain ⟨a, k, hv, hk1, hk2⟩ := hr.slice
    have H2 := Lib.hid (H1.out.trans (hb.mono H1.out.size))
    have HR2 := Lib.hid hr
    generalize hH : allL r l ds n1 = H at *
    subst hv
    generalize hHn : H.length = m at *
    have HLH : Hid (allL r (l ++ [x]) (ds ++ [d]) (l ++ [x]).length = addL r H x d) := by
      show _ = _
      rw [allL_next (allR_ok h0).2.2, HLN.out]; exact hH ▸ rfl
    have HAR : Hid (allR r (l ++ [x]) (ds ++ [d]) = addE n1 d) := by
      show _ = _
      rw [allR_app, if_pos h0, HLN.out]
    obtain ⟨hr1, hr4, hnn⟩ := allR_ok h0
    have HRP : Hid (RightP r n1 m) := ⟨hr1, hr4, by omega, by omega, by rw [← hHn, ← hH]; exact allL_len hr1 l ds n1⟩
    have HLN1 : Hid ((l ++ [x]).length = n1 + 1) := by show _ = _; rw [List.length_append, HLN.out]; rfl
    have HDN1 : Hid ((ds ++ [d]).length = n2 + 1) := by show _ = _; rw [List.length_append, HDN.out]; rfl
    have HHM := Lib.hid hHn
    subst hHn
    have HS2 := Lib.hid hb.size
    obtain ⟨i3, hi3, hz0, hz1, hz2⟩ := info_parts Try.info3
    clear h0 hb hr hH
    obtain ⟨wp, hwp⟩ : ∃ wp, w2.alloc (.cells #[.int .i64 r, .int .i64 n1, .slice a H.length k] 27) = wp := ⟨_, rfl⟩
    have HPX : Hid (BX wp w2.heap.size r n1 (.slice a H.length k)) := hwp ▸ BX.new w2 r n1 (.slice a H.length k)
    have HWP : Hid (Below w.heap.size w wp) := hwp ▸ H2.out.alloc H2.out.size _
    have HRp : Hid (Rd wp (.slice a H.length k) H) := hwp ▸ HR2.out.alloc _
    have HWs : Hid (w2.heap.size < wp.heap.size) := HPX.out.lt
    go_wp2_with fail
    clear hwp
    have hcl := clone_any _ l wp (HL.out.below HWP.out (Nat.le_refl _)) (by rw [HLN.out]; omega)
    rw [HLN.out] at hcl
    refine hcl.mono ?_
    rintro e w3 ⟨v3, rfl, ho3, hb3⟩
    have HB3 := Lib.hid hb3
    have HO3 := Lib.hid ho3
    clear hb3 ho3 hcl
    have hs3 := HB3.out.size
    go_wp2_with (at_builtin; go_must (refine push rfl _ _ 25 rfl wp.heap.size 3 i3 (.int .i64 0) 8 Try.underlying25 hi3 hz0 hz1 hz2 rfl _ n1 (l.map (Value.int .i64)) rfl HO3.out (.int .i64 x) w3.heap.size rfl rfl rfl (by decide) (by omega) hs3 ?_))
    intro v4 w4 ho4 hg4
    have HB4 := Lib.hid (grown_below hg4 HO3.out HB3.out (Nat.le_refl _) hs3)
    have HO4 : Hid (w4.ownsRow wp.heap.size 3 1 v4 (n1 + 1) ((l ++ [x]).map (Value.int .i64))) := by rw [List.map_append]; exact ho4
    clear hg4 ho4
    go_wp2_with fail
    have hcl := clone_any _ ds w4 ((HD.out.below HWP.out (Nat.le_refl _)).below HB4.out (Nat.le_refl _)) (by rw [HDN.out]; omega)
    rw [HDN.out] at hcl
    refine hcl.mono ?_
    rintro e w5 ⟨v5, rfl, ho5, hb5⟩
    have HB5 := Lib.hid hb5
    have HO5 := Lib.hid ho5
    clear hb5 ho5 hcl
    have hs5 := HB5.out.size
    go_wp2_with (at_builtin; go_must (refine push rfl _ _ 25 rfl w4.heap.size 3 i3 (.int .i64 0) 8 Try.underlying25 hi3 hz0 hz1 hz2 rfl _ n2 (ds.map (Value.int .i64)) rfl HO5.out (.int .i64 d) w5.heap.size rfl rfl rfl (by decide) (by omega) hs5 ?_))
    intro v6 w6 ho6 hg6
    have HB6 := Lib.hid (grown_below hg6 HO5.out HB5.out (Nat.le_refl _) hs5)
    have HO6 : Hid (w6.ownsRow w4.heap.size 3 1 v6 (n2 + 1) ((ds ++ [d]).map (Value.int .i64))) := by rw [List.map_append]; exact ho6
    clear hg6 ho6
    have HL6 := Lib.hid (Rd.own (own_below HO4.out HB6.out (Nat.le_refl _)))
    have HD6 := Lib.hid (Rd.own HO6.out)
    have HB6w := Lib.hid (HB4.out.trans (HB6.out.mono HB4.out.size))
    obtain ⟨a4, k4, hv4, -, -⟩ := HL6.out.slice
    obtain ⟨a6, k6, hv6, -, -⟩ := HD6.out.slice
    rw [HLN1.out] at hv4
    rw [HDN1.out] at hv6
    subst hv4
    subst hv6
    go_wp2_with fail
    refine (all_any r a4 a6 _ _ k4 k6 _ _ _ HL6.out HD6.out).mono ?_
    rintro e w7 ⟨hb7, h7⟩
    have HB7 := Lib.hid (HB6w.out.trans (hb7.mono HB6w.out.size))
    have HP7 := Lib.hid (HPX.out.below HB7.out HWs.out)
    have HR7 := Lib.hid (HRp.out.below HB7.out (Nat.le_refl _))
    have HS7 := Lib.hid (HB7.out.size)
    have hp7 : w2.heap.size < w7.heap.size := by have := HS7.out; have := HWs.out; omega
    rw [HLH.out, HAR.out, HLN1.out, show ((n1 + 1 : Nat) : Int) = (n1 : Int) + 1 by omega] at h7
    clear hb7 hs3 hs5
    have d0 := HP7.out.c0
    have d1 := HP7.out.c1
    have d2 := HP7.out.c2
    have hAE : Hid (addE n1 d = 0 ↔ (0 ≤ d ∧ d < n1 + 1)) := by
      show _ ↔ _
      unfold addE
      rw [if_neg (by omega)]
      by_cases hd : d < 0 ∨ (n1 : Int) < d
      · rw [if_pos hd]; exact ⟨(fun h => by cases h), (fun h => by omega)⟩
      · rw [if_neg hd]; exact ⟨(fun _ => by omega), (fun _ => rfl)⟩
    rcases h7 with ⟨h0, v7, rfl, hr7⟩ | ⟨h0, rfl⟩
    · have hd := hAE.out.1 h0
      obtain ⟨a7, k7, rfl, -⟩ := hr7.slice
      have HAD := Lib.hid h0
      have HRq := Lib.hid hr7
      obtain ⟨wq, hwq⟩ : ∃ wq, w7.alloc (.cells #[.int .i64 r, .int .i64 ((n1 : Int) + 1), .slice a7 (addL r H x d).length k7] 27) = wq := ⟨_, rfl⟩
      have HQ : Hid (BX wq w7.heap.size r ((n1 : Int) + 1) (.slice a7 (addL r H x d).length k7)) := hwq ▸ BX.new w7 _ _ _
      have HBq : Hid (Below wp.heap.size wp wq) := hwq ▸ HB7.out.alloc HS7.out _
      have HPq : Hid (BX wq w2.heap.size r n1 (.slice a H.length k)) := HPX.out.below HBq.out HWs.out
      have HRpq : Hid (Rd wq (.slice a H.length k) H) := HRp.out.below HBq.out (Nat.le_refl _)
      have HRqq : Hid (Rd wq (.slice a7 (addL r H x d).length k7) (addL r H x d)) := hwq ▸ hr7.alloc _
      have hqs : w7.heap.size < wq.heap.size := HQ.out.lt
      have hps : w2.heap.size < wq.heap.size := HPq.out.lt
      clear hr7 h0 HRq
      clear d0 d1 d2
      have d0 := HPq.out.c0
      have d1 := HPq.out.c1
      have d2 := HPq.out.c2
      generalize HLM : (addL r H x d).length = M at *
      go_wp2_with fail
      refine (need_ok r n1 a _ k _ HRP.out).mono ?_
      rintro e w8 ⟨rfl, hb8⟩
      have HB8 := Lib.hid (HBq.out.trans (hb8.mono HBq.out.size))
      have HQ8 := Lib.hid (HQ.out.below hb8 hqs)
      have HP8 := Lib.hid (HPq.out.below hb8 hps)
      have HRp8 := Lib.hid (HRpq.out.below hb8 (Nat.le_refl _))
      have HRq8 := Lib.hid (HRqq.out.below hb8 (Nat.le_refl _))
      clear hb8 d0 d1 d2
      have d0 := HP8.out.c0
      have d1 := HP8.out.c1
      have d2 := HP8.out.c2
      go_wp2_with fail
      refine (add_ok r n1 x d _ H _ HRp8.out HRP.out HAD.out).mono ?_
      rintro e w9 ⟨hb9, v9, rfl, ho9⟩
      have HB9 := Lib.hid (HB8.out.trans (hb9.mono HB8.out.size))
      have HQ9 := Lib.hid (HQ8.out.below hb9 HQ8.out.lt)
      have HRq9 := Lib.hid (HRq8.out.below hb9 (Nat.le_refl _))
      have HR9 := Lib.hid (Rd.own ho9)
      obtain ⟨a9, k9, hv9, -⟩ := HR9.out.slice
      subst hv9
      clear hb9 ho9 d0 d1 d2
      rw [HLM] at HR9
      obtain ⟨hd1, hd2⟩ := hd
      have q1 : decide (0 ≤ d) = true := decide_eq_true hd1
      have q2 : decide (d < (n1 : Int) + 1) = true := decide_eq_true hd2
      have d0 := HQ9.out.c0
      have d1 := HQ9.out.c1
      have d2 := HQ9.out.c2
      have hq9 : w7.heap.size < w9.heap.size := HQ9.out.lt
      have HS9 := Lib.hid HB9.out.size
      go_wp2_with fail
      refine (same_ok r _ _ _ (addL r H x d) _ (HR9.out.alloc _) (HRq9.out.alloc _)).mono ?_
      rintro e w10 ⟨rfl, hb10⟩
      have HBa := Lib.hid (HB9.out.alloc HS9.out (.cells #[.int .i64 r, .int .i64 (n1 + 1), .slice a9 M k9] 27))
      have HBz := Lib.hid (HWP.out.trans ((HBa.out.trans (hb10.mono HBa.out.size)).mono HWP.out.size))
      clear hb10
      go_wp2_with fail
      go_ret
      exact ⟨rfl, HBz.out⟩
    · have hd := (fun h => h0 (hAE.out.2 h) : ¬ (0 ≤ d ∧ d < n1 + 1))
      have HAD := Lib.hid h0
      have HAD2 := Lib.hid (add_bad r n1 x d a H.length k)
      have q3 : (addE n1 d == 0) = false := by rw [beq_eq_false_iff_ne]; exact h0
      have q4 : (addE n1 d == addE n1 d) = true := by rw [beq_iff_eq]
      have HQ : Hid (BX (w7.alloc (.cells #[.int .i64 0, .int .i64 0, .slice none 0 0] 27)) w7.heap.size 0 0 (.slice none 0 0)) := BX.new w7 _ _ _
      have HBq : Hid (Below wp.heap.size wp (w7.alloc (.cells #[.int .i64 0, .int .i64 0, .slice none 0 0] 27))) := HB7.out.alloc HS7.out _
      have HPq : Hid (BX (w7.alloc (.cells #[.int .i64 0, .int .i64 0, .slice none 0 0] 27)) w2.heap.size r n1 (.slice a H.length k)) := HPX.out.below HBq.out HWs.out
      clear h0
      generalize addE n1 d = ec at *
      go_wp2_with fail
      generalize w7.alloc (.cells #[.int .i64 0, .int .i64 0, .slice none 0 0] 27) = wq at *
      have hqs : w7.heap.size < wq.heap.size := HQ.out.lt
      have hps : w2.heap.size < wq.heap.size := HPq.out.lt
      refine (need_ok r n1 a _ k _ HRP.out).mono ?_
      rintro e w8 ⟨rfl, hb8⟩
      have HB8 := Lib.hid (HBq.out.trans (hb8.mono HBq.out.size))
      have HQ8 := Lib.hid (HQ.out.below hb8 hqs)
      have HP8 := Lib.hid (HPq.out.below hb8 hps)
      clear hb8 d0 d1 d2
      have d0 := HP8.out.c0
      have d1 := HP8.out.c1
      have d2 := HP8.out.c2
      go_wp2_with fail
      refine (HAD2.out _ HRP.out HAD.out).mono ?_
      rintro e w9 ⟨rfl, hb9⟩
      have HB9 := Lib.hid (HB8.out.trans (hb9.mono HB8.out.size))
      have HQ9 := Lib.hid (HQ8.out.below hb9 HQ8.out.lt)
      clear hb9 d0 d1 d2
      have d0 := HQ9.out.c0
      have d1 := HQ9.out.c1
      have d2 := HQ9.out.c2
      have hq9 : w7.heap.size < w9.heap.size := HQ9.out.lt
      have HS9 := Lib.hid HB9.out.size
      by_cases hd1 : 0 ≤ d
      · have q1 : decide (0 ≤ d) = true := decide_eq_true hd1
        have q2 : decide (d < (n1 : Int) + 1) = false := decide_eq_false (fun h => hd ⟨hd1, h⟩)
        go_wp2_with fail
        refine (same_ok 0 0 _ _ [] _ (Rd.nil _) (Rd.nil _)).mono ?_
        rintro e w10 ⟨rfl, hb10⟩
        have HBa := Lib.hid (HB9.out.alloc HS9.out (.cells #[.int .i64 0, .int .i64 0, .slice none 0 0] 27))
        have HBz := Lib.hid (HWP.out.trans ((HBa.out.trans (hb10.mono HBa.out.size)).mono HWP.out.size))
        clear hb10
        go_wp2_with fail
        go_ret
        exact ⟨rfl, HBz.out⟩
      · have q1 : decide (0 ≤ d) = false := decide_eq_false hd1
        go_wp2_with fail
        refine (same_ok 0 0 _ _ [] _ (Rd.nil _) (Rd.nil _)).mono ?_
        rintro e w10 ⟨rfl, hb10⟩
        have HBa := Lib.hid (HB9.out.alloc HS9.out (.cells #[.int .i64 0, .int .i64 0, .slice none 0 0] 27))
        have HBz := Lib.hid (HWP.out.trans ((HBa.out.trans (hb10.mono HBa.out.size)).mono HWP.out.size))
        clear hb10
        go_wp2_with fail
        go_ret
        exact ⟨rfl, HBz.out⟩
  · have HAR : Hid (allR r (l ++ [x]) (ds ++ [d]) = allR r l ds) := by
      show _ = _
      rw [allR_app, if_neg h0]
    have q3 : (allR r l ds == 0) = false := by rw [beq_eq_false_iff_ne]; exact h0
    have q5 : (allR r l ds != 0) = true := by rw [bne_iff_ne]; exact h0
    have q4 : (allR r l ds == allR r l ds) = true := by rw [beq_iff_eq]
    have H2 := Lib.hid (H1.out.trans (hb.mono H1.out.size))
    have HLN1 : Hid ((l ++ [x]).length = n1 + 1) := by show _ = _; rw [List.length_append, HLN.out]; rfl
    have HDN1 : Hid ((ds ++ [d]).length = n2 + 1) := by show _ = _; rw [List.length_append, HDN.out]; rfl
    have HH0 := Lib.hid h0
    obtain ⟨i3, hi3, hz0, hz1, hz2⟩ := info_parts Try.info3
    clear h0 hb
    generalize allR r l ds = ec at *
    have HWP : Hid (Below w.heap.size w (w2.alloc (.cells #[.int .i64 0, .int .i64 0, .slice none 0 0] 27))) := H2.out.alloc H2.out.size _
    go_wp2_with fail
    generalize w2.alloc (.cells #[.int .i64 0, .int .i64 0, .slice none 0 0] 27) = wp at *
    have hcl := clone_any _ l wp (HL.out.below HWP.out (Nat.le_refl _)) (by rw [HLN.out]; omega)
    rw [HLN.out] at hcl
    refine hcl.mono ?_
    rintro e w3 ⟨v3, rfl, ho3, hb3⟩
    have HB3 := Lib.hid hb3
    have HO3 := Lib.hid ho3
    clear hb3 ho3 hcl
    have hs3 := HB3.out.size
    go_wp2_with (at_builtin; go_must (refine push rfl _ _ 25 rfl wp.heap.size 3 i3 (.int .i64 0) 8 Try.underlying25 hi3 hz0 hz1 hz2 rfl _ n1 (l.map (Value.int .i64)) rfl HO3.out (.int .i64 x) w3.heap.size rfl rfl rfl (by decide) (by omega) hs3 ?_))
    intro v4 w4 ho4 hg4
    have HB4 := Lib.hid (grown_below hg4 HO3.out HB3.out (Nat.le_refl _) hs3)
    have HO4 : Hid (w4.ownsRow wp.heap.size 3 1 v4 (n1 + 1) ((l ++ [x]).map (Value.int .i64))) := by rw [List.map_append]; exact ho4
    clear hg4 ho4
    go_wp2_with fail
    have hcl := clone_any _ ds w4 ((HD.out.below HWP.out (Nat.le_refl _)).below HB4.out (Nat.le_refl _)) (by rw [HDN.out]; omega)
    rw [HDN.out] at hcl
    refine hcl.mono ?_
    rintro e w5 ⟨v5, rfl, ho5, hb5⟩
    have HB5 := Lib.hid hb5
    have HO5 := Lib.hid ho5
    clear hb5 ho5 hcl
    have hs5 := HB5.out.size
    go_wp2_with (at_builtin; go_must (refine push rfl _ _ 25 rfl w4.heap.size 3 i3 (.int .i64 0) 8 Try.underlying25 hi3 hz0 hz1 hz2 rfl _ n2 (ds.map (Value.int .i64)) rfl HO5.out (.int .i64 d) w5.heap.size rfl rfl rfl (by decide) (by omega) hs5 ?_))
    intro v6 w6 ho6 hg6
    have HB6 := Lib.hid (grown_below hg6 HO5.out HB5.out (Nat.le_refl _) hs5)
    have HO6 : Hid (w6.ownsRow w4.heap.size 3 1 v6 (n2 + 1) ((ds ++ [d]).map (Value.int .i64))) := by rw [List.map_append]; exact ho6
    clear hg6 ho6
    have HL6 := Lib.hid (Rd.own (own_below HO4.out HB6.out (Nat.le_refl _)))
    have HD6 := Lib.hid (Rd.own HO6.out)
    have HB6w := Lib.hid (HB4.out.trans (HB6.out.mono HB4.out.size))
    obtain ⟨a4, k4, hv4, -, -⟩ := HL6.out.slice
    obtain ⟨a6, k6, hv6, -, -⟩ := HD6.out.slice
    rw [HLN1.out] at hv4
    rw [HDN1.out] at hv6
    subst hv4
    subst hv6
    go_wp2_with fail
    refine (all_any r a4 a6 _ _ k4 k6 _ _ _ HL6.out HD6.out).mono ?_
    rintro e w7 ⟨hb7, h7⟩
    have HB7 := Lib.hid (HB6w.out.trans (hb7.mono HB6w.out.size))
    have HS7 := Lib.hid (HB7.out.size)
    clear hb7 hs3 hs5
    rw [HAR.out] at h7
    rcases h7 with ⟨h0, -⟩ | ⟨-, rfl⟩
    · exact absurd h0 HH0.out
    · have HBz := Lib.hid (HWP.out.trans ((HB7.out.alloc HS7.out (.cells #[.int .i64 0, .int .i64 0, .slice none 0 0] 27)).mono HWP.out.size))
      go_wp2_with fail
      go_ret
      exact ⟨rfl, HBz.out⟩
theorem walk (a0 : Int) (a1 : Option Addr) (len1 cap1 : Nat) (z1 : List Int) (a2 : Option Addr) (len2 cap2 : Nat) (z2 : List Int) (a3 a4 : Int) (w : World) (w0 : (Lit.int .i64 a0).wf = true) (w1 : IsRow .i64 w a1 len1 cap1 z1) (r1r : len1 ≤ 1048576) (w2 : IsRow .i64 w a2 len2 cap2 z2) (r2r : len2 ≤ 1048576) (w3 : (Lit.int .i64 a3).wf = true) (w4 : (Lit.int .i64 a4).wf = true) :
    Calls Try.prog 5 #[.int .i64 a0, .slice a1 len1 cap1, .slice a2 len2 cap2, .int .i64 a3, .int .i64 a4] w fun e w' => e = .returned (.bool true) ∧ Below w.heap.size w w' :=
  run a0 a3 a4 a1 a2 len1 len2 cap1 cap2 _ _ w w1.rd.1 w2.rd.1 r1r r2r
end Go.Proofs.Ytimknmofcnhbpaa.poolParts
