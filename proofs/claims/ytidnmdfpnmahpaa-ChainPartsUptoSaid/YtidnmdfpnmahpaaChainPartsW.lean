/- The walk of ChainParts. Condition: rows of at most 2^20 numbers. -/
import Derived.Test.YtidnmdfpnmahpaaAl
import Derived.Test.YtidnmdfpnmahpaaPartsL
import Derived.Test.YtidnmdfpnmahpaaMatIn
set_option linter.unusedSimpArgs false
set_option linter.unusedVariables false
namespace Go.Proofs.Ytidnmdfpnmahpaa.chainParts
open Go.RowKit Go.Proofs.Ytidnmdfpnmahpaa
/-- slices.Concat of two, as the call lays them. -/
theorem conc_any (a1 a2 : Option Addr) (n1 c1 n2 c2 : Nat) (xs ys : List Int) (w : World) (h1 : Rd w (.slice a1 n1 c1) xs) (h2 : Rd w (.slice a2 n2 c2) ys) (g1 : a1 = none → n1 = 0 ∧ c1 = 0) (g2 : a2 = none → n2 = 0 ∧ c2 = 0) (hl1 : n1 ≤ 1048576) (hl2 : n2 ≤ 1048576) :
    Calls Try.prog 17 #[.slice (some ⟨w.heap.size, 0, none⟩) 2 2] (w.alloc (.cells #[.slice a1 n1 c1, .slice a2 n2 c2] 24)) fun e w' => Below w.heap.size w w' ∧ ∃ a c, e = .returned (.slice a (n1 + n2) c) ∧ Rd w' (.slice a (n1 + n2) c) (xs ++ ys) := by
  have hn := heap_alloc_new w (.cells #[.slice a1 n1 c1, .slice a2 n2 c2] 24)
  have hb : Below w.heap.size w (w.alloc (.cells #[.slice a1 n1 c1, .slice a2 n2 c2] 24)) := (Below.refl _ _).alloc (Nat.le_refl _) _
  refine (concati_any w.heap.size n1 c1 n2 c2 a1 a2 xs ys _ (h1.alloc _) (h2.alloc _) g1 g2 (cell_of_row _ _ 0 _ _ _ hn) (cell_of_row _ _ 1 _ _ _ hn) (lt_of_block hn) (by omega)).mono ?_
  rintro e w' ⟨hb', v, rfl, hr⟩
  obtain ⟨a, c, rfl, -, -⟩ := hr.slice
  have hl : (xs ++ ys).length = n1 + n2 := by rw [List.length_append, h1.lenEq.1, h2.lenEq.1]
  rw [hl] at hr ⊢
  exact ⟨hb.trans (hb'.mono hb.size), a, c, rfl, hr⟩
set_option maxHeartbeats 1600000 in
set_option maxRecDepth 20000 in
theorem run (a a2 a3 : Option Addr) (n c f n2 c2 n3 c3 : Nat) (M : List (List Int)) (xs ys : List Int) (w : World) (h : RdM w (.slice a n c) M) (hg : Good n M) (hf : f < n) (h2 : Rd w (.slice a2 n2 c2) xs) (h3 : Rd w (.slice a3 n3 c3) ys) (g2 : a2 = none → n2 = 0 ∧ c2 = 0) (g3 : a3 = none → n3 = 0 ∧ c3 = 0) (hl2 : n2 ≤ 1048576) (hl3 : n3 ≤ 1048576) :
    Calls Try.prog 7 #[.slice a n c, .int .i64 f, .slice a2 n2 c2, .slice a3 n3 c3] w fun e w' => e = .returned (.bool true) ∧ Below w.heap.size w w' := by
  have HG := Lib.hid hg
  have HM := Lib.hid h
  have H2 := Lib.hid h2
  have H3 := Lib.hid h3
  have G2 := Lib.hid g2
  have G3 := Lib.hid g3
  have HAP := Lib.hid (goF_app M xs f ys)
  have HIN : Hid (∀ l, goF M f xs = some l → lastN f l < n) := fun l hl => lastN_lt hf (goF_in hg.1 (fun r hr => ⟨(hg.2.2.2 r hr).1, (hg.2.2.2 r hr).2.2⟩) xs f l hf hl)
  have HINX : Hid (∀ l, goF M f xs = some l → ∀ x ∈ l, 0 ≤ x ∧ x < n) := fun l hl => goF_in hg.1 (fun r hr => ⟨(hg.2.2.2 r hr).1, (hg.2.2.2 r hr).2.2⟩) xs f l hf hl
  have HLN : Hid (∀ l, goF M f xs = some l → l.length = n2) := fun l hl => by
    show l.length = n2
    rw [goF_len M xs f l hl]; exact h2.lenEq.1
  have HLM : Hid (∀ q l, goF M q ys = some l → l.length = n3) := fun q l hl => by
    show l.length = n3
    rw [goF_len M ys q l hl]; exact h3.lenEq.1
  have hfI : (f : Int) < (n : Int) := by omega
  clear h h2 h3 g2 g3 hg
  go_enter Try.func7, Try.ntmps7
  go_wp2_with fail
  refine (alive_any w).mono ?_
  rintro e w1 ⟨rfl, hb1⟩
  have HB1 := Lib.hid hb1
  clear hb1
  go_wp2_with fail
  refine (conc_any a2 a3 n2 c2 n3 c3 xs ys w1 (H2.out.below HB1.out (Nat.le_refl _)) (H3.out.below HB1.out (Nat.le_refl _)) G2.out G3.out hl2 hl3).mono ?_
  rintro e w2 ⟨hb2, a4, c4, rfl, hr4⟩
  have HB2 := Lib.hid (HB1.out.trans (hb2.mono HB1.out.size))
  have HR4 := Lib.hid hr4
  clear hb2 hr4
  go_wp2_with fail
  refine (go_run a a4 n c (n2 + n3) c4 f M (xs ++ ys) w2 (HM.out.below HB2.out (Nat.le_refl _)) HR4.out HG.out hf (by omega)).mono ?_
  rintro e w3 ⟨hb3, hp3⟩
  rw [HAP.out] at hp3
  have HB3 := Lib.hid (HB2.out.trans (hb3.mono HB2.out.size))
  have HP3 := Lib.hid hp3
  have HGO3 := Lib.hid (go_run a a2 n c n2 c2 f M xs w3 (HM.out.below HB3.out (Nat.le_refl _)) (H2.out.below HB3.out (Nat.le_refl _)) HG.out hf (by omega))
  clear hb3 hp3
  cases hgx : goF M f xs with
  | none =>
    rw [hgx] at HP3 HGO3
    have he := HP3.out
    simp only [Option.bind_none] at he
    subst he
    clear HP3 HIN HLN HINX hgx
    go_wp2_with fail
    refine HGO3.out.mono ?_
    rintro e w4 ⟨hb4, rfl⟩
    have HB4 := Lib.hid (HB3.out.trans (hb4.mono HB3.out.size))
    clear hb4
    go_wp2_with fail
    go_ret
    exact ⟨rfl, HB4.out⟩
  | some l =>
    rw [hgx] at HP3 HGO3
    have hll := HLN.out l hgx
    have hlt := HIN.out l hgx
    have HPOS := Lib.hid (HINX.out l hgx)
    have HLL := Lib.hid hll
    have HLT := Lib.hid hlt
    simp only [Option.bind_some] at HP3
    clear HIN HINX HLN hgx hll
    cases hgy : goF M (lastN f l) ys with
    | none =>
      rw [hgy] at HP3
      have he := HP3.out
      simp only [Option.map_none] at he
      subst he
      clear HP3 hgy hlt
      go_wp2_with fail
      refine HGO3.out.mono ?_
      rintro e w4 ⟨hb4, a5, c5, rfl, hr5, -⟩
      have HB4 := Lib.hid (HB3.out.trans (hb4.mono HB3.out.size))
      clear hb4 hr5
      go_wp2_with fail
      go_ret
      exact ⟨rfl, HB4.out⟩
    | some l2 =>
      rw [hgy] at HP3
      have hlm := HLM.out _ l2 hgy
      have HL2 := Lib.hid hlm
      have HGY := Lib.hid hgy
      obtain ⟨a6, c6, he, hr6, -⟩ := HP3.out
      subst he
      have HR6 := Lib.hid hr6
      have hla : (l ++ l2).length = n2 + n3 := by rw [List.length_append, HLL.out, hlm]
      rw [hla] at HR6 ⊢
      clear HP3 hgy hlm hr6 hla
      go_wp2_with fail
      refine HGO3.out.mono ?_
      rintro e w4 ⟨hb4, a5, c5, rfl, hr5, hn5⟩
      rw [HLL.out] at hr5 ⊢
      have HB4 := Lib.hid (HB3.out.trans (hb4.mono HB3.out.size))
      have HR46 := Lib.hid (HR6.out.below hb4 (Nat.le_refl _))
      have HR5 := Lib.hid hr5
      have HN5 := Lib.hid hn5
      have HGOY := Lib.hid (go_run a a3 n c n3 c3 (lastN f l) M ys w4 (HM.out.below HB4.out (Nat.le_refl _)) (H3.out.below HB4.out (Nat.le_refl _)) HG.out hlt (by omega))
      rw [HGY.out] at HGOY
      clear hb4 hr5 hn5 hlt
      have HK : Hid (n2 = 0 → lastN f l = f) := fun h0 => by
        have : l = [] := List.length_eq_zero_iff.1 (by rw [HLL.out]; exact h0)
        rw [this]; rfl
      have HKs : Hid (∀ m, n2 = m + 1 → l.getD m 0 = ((lastN f l : Nat) : Int)) := fun m hm => by
        have hl := HLL.out
        cases l with
        | nil => simp at hl; omega
        | cons x r =>
          have hrl : r.length = m := by simp at hl; omega
          have h0 := HPOS.out ((x :: r).getD r.length 0) (getD_mem _ _ _ (by simp))
          show _ = ((((x :: r).getD r.length 0).toNat : Nat) : Int)
          rw [← hrl]; omega
      obtain ⟨K, hK⟩ : ∃ K, lastN f l = K := ⟨_, rfl⟩
      rw [hK] at HGOY HK HKs
      clear hK HPOS HLT
      cases n2 with
      | zero =>
        obtain rfl : K = f := HK.out rfl
        clear HK HKs
        rw [Nat.zero_add] at HR46
        go_wp2_with fail
        refine HGOY.out.mono ?_
        rintro e w5 ⟨hb5, a7, c7, rfl, hr7, hn7⟩
        have HB5 := Lib.hid (HB4.out.trans (hb5.mono HB4.out.size))
        have HR57 := Lib.hid (HR5.out.below hb5 (Nat.le_refl _))
        have HR67 := Lib.hid (HR46.out.below hb5 (Nat.le_refl _))
        have HR7 := Lib.hid hr7
        have HN7 := Lib.hid hn7
        rw [HL2.out] at HR7 ⊢
        have HZ3 : Hid (a7 = none → n3 = 0) := fun h => by
          rcases Nat.eq_zero_or_pos n3 with h0 | h0
          · exact h0
          · obtain ⟨_, _, he, -⟩ := HR7.out.at h0
            rw [h] at he; cases he
        clear hb5 hr7 hn7
        go_wp2_with fail
        refine (conc_any a5 a7 0 c5 n3 c7 l l2 w5 HR57.out HR7.out (fun h => ⟨rfl, HN5.out h⟩) (fun h => ⟨HZ3.out h, HN7.out h⟩) hl2 hl3).mono ?_
        rintro e w6 ⟨hb6, a8, c8, rfl, hr8⟩
        rw [Nat.zero_add] at hr8 ⊢
        have HB6 := Lib.hid (HB5.out.trans (hb6.mono HB5.out.size))
        have HR68 := Lib.hid (HR67.out.below hb6 (Nat.le_refl _))
        have HR8 := Lib.hid hr8
        clear hb6 hr8
        go_wp2_with fail
        refine (equal_any _ _ (l ++ l2) (l ++ l2) _ HR68.out HR8.out).mono ?_
        rintro e w7 ⟨rfl, hb7⟩
        rw [decide_eq_true (rfl : l ++ l2 = l ++ l2)]
        have HB7 := Lib.hid (HB6.out.trans (hb7.mono HB6.out.size))
        clear hb7
        go_wp2_with fail
        go_ret
        exact ⟨rfl, HB7.out⟩
      | succ m =>
        obtain ⟨b5, o5, rfl, -, hc5⟩ := HR5.out.at (by omega)
        have c5m := hc5 m (by omega)
        rw [HKs.out m rfl] at c5m
        clear HK HKs hc5
        go_wp2_with fail
        refine HGOY.out.mono ?_
        rintro e w5 ⟨hb5, a7, c7, rfl, hr7, hn7⟩
        have HB5 := Lib.hid (HB4.out.trans (hb5.mono HB4.out.size))
        have HR57 := Lib.hid (HR5.out.below hb5 (Nat.le_refl _))
        have HR67 := Lib.hid (HR46.out.below hb5 (Nat.le_refl _))
        have HR7 := Lib.hid hr7
        have HN7 := Lib.hid hn7
        rw [HL2.out] at HR7 ⊢
        have HZ3 : Hid (a7 = none → n3 = 0) := fun h => by
          rcases Nat.eq_zero_or_pos n3 with h0 | h0
          · exact h0
          · obtain ⟨_, _, he, -⟩ := HR7.out.at h0
            rw [h] at he; cases he
        clear hb5 hr7 hn7 c5m
        go_wp2_with fail
        refine (conc_any (some ⟨b5, o5, none⟩) a7 (m + 1) c5 n3 c7 l l2 w5 HR57.out HR7.out (fun h => by cases h) (fun h => ⟨HZ3.out h, HN7.out h⟩) hl2 hl3).mono ?_
        rintro e w6 ⟨hb6, a8, c8, rfl, hr8⟩
        have HB6 := Lib.hid (HB5.out.trans (hb6.mono HB5.out.size))
        have HR68 := Lib.hid (HR67.out.below hb6 (Nat.le_refl _))
        have HR8 := Lib.hid hr8
        clear hb6 hr8
        go_wp2_with fail
        refine (equal_any _ _ (l ++ l2) (l ++ l2) _ HR68.out HR8.out).mono ?_
        rintro e w7 ⟨rfl, hb7⟩
        rw [decide_eq_true (rfl : l ++ l2 = l ++ l2)]
        have HB7 := Lib.hid (HB6.out.trans (hb7.mono HB6.out.size))
        clear hb7
        go_wp2_with fail
        go_ret
        exact ⟨rfl, HB7.out⟩
theorem bad (a a2 a3 : Option Addr) (n c n2 c2 n3 c3 : Nat) (f : Int) (M : List (List Int)) (xs ys : List Int) (w : World) (h : RdM w (.slice a n c) M) (hw : wrongN M ≠ 0 ∨ (wrongN M = 0 ∧ (f < 0 ∨ (n : Int) ≤ f))) (h2 : Rd w (.slice a2 n2 c2) xs) (h3 : Rd w (.slice a3 n3 c3) ys) (g2 : a2 = none → n2 = 0 ∧ c2 = 0) (g3 : a3 = none → n3 = 0 ∧ c3 = 0) (hl2 : n2 ≤ 1048576) (hl3 : n3 ≤ 1048576) :
    Calls Try.prog 7 #[.slice a n c, .int .i64 f, .slice a2 n2 c2, .slice a3 n3 c3] w fun e w' => e = .returned (.bool true) ∧ Below w.heap.size w w' := by
  have HGE : Hid (∀ X aa m cc, Below w.heap.size w X → Calls Try.prog 13 #[.slice a n c, .int .i64 f, .slice aa m cc] X fun e w' => ∃ er : Nat, er ≠ 0 ∧ e = .returned (.tuple #[.slice none 0 0, .int .i64 er]) ∧ Below X.heap.size X w') := fun X aa m cc hX => by
    rcases hw with hw | ⟨hw, hf⟩
    · exact go_wrong a aa n c m cc f M X (h.below hX (Nat.le_refl _)) hw
    · exact go_none a aa n c m cc f M X (h.below hX (Nat.le_refl _)) hw hf
  have H2 := Lib.hid h2
  have H3 := Lib.hid h3
  have G2 := Lib.hid g2
  have G3 := Lib.hid g3
  clear h h2 h3 g2 g3 hw
  go_enter Try.func7, Try.ntmps7
  go_wp2_with fail
  refine (alive_any w).mono ?_
  rintro e w1 ⟨rfl, hb1⟩
  have HB1 := Lib.hid hb1
  clear hb1
  go_wp2_with fail
  refine (conc_any a2 a3 n2 c2 n3 c3 xs ys w1 (H2.out.below HB1.out (Nat.le_refl _)) (H3.out.below HB1.out (Nat.le_refl _)) G2.out G3.out hl2 hl3).mono ?_
  rintro e w2 ⟨hb2, a4, c4, rfl, hr4⟩
  have HB2 := Lib.hid (HB1.out.trans (hb2.mono HB1.out.size))
  clear hb2 hr4
  go_wp2_with fail
  refine (HGE.out w2 _ _ _ HB2.out).mono ?_
  rintro e w3 ⟨er, hne, rfl, hb3⟩
  have HB3 := Lib.hid (HB2.out.trans (hb3.mono HB2.out.size))
  have he : ((er : Int) != 0) = true := by rw [bne_iff_ne]; omega
  clear hb3 hne
  go_wp2_with fail
  refine (HGE.out w3 _ _ _ HB3.out).mono ?_
  rintro e w4 ⟨er2, hne2, rfl, hb4⟩
  have HB4 := Lib.hid (HB3.out.trans (hb4.mono HB3.out.size))
  clear hb4 hne2
  go_wp2_with fail
  go_ret
  exact ⟨rfl, HB4.out⟩
theorem walk (x0 : Option Addr × Nat × Nat × List (List Int)) (a1 : Int) (a2 : Option Addr) (len2 cap2 : Nat) (z2 : List Int) (a3 : Option Addr) (len3 cap3 : Nat) (z3 : List Int) (w : World)
    (h : RdM w (.slice x0.1 x0.2.1 x0.2.2.1) x0.2.2.2) (w1 : (Lit.int .i64 a1).wf = true) (w2 : IsRow .i64 w a2 len2 cap2 z2) (r2 : len2 ≤ 1048576) (w3 : IsRow .i64 w a3 len3 cap3 z3) (r3 : len3 ≤ 1048576) :
    Calls Try.prog 7 #[.slice x0.1 x0.2.1 x0.2.2.1, .int .i64 a1, .slice a2 len2 cap2, .slice a3 len3 cap3] w fun e w' => e = .returned (.bool true) ∧ Below w.heap.size w w' := by
  obtain ⟨a, n, c, M⟩ := x0
  simp only at h ⊢
  obtain ⟨hl, hc1, hc2⟩ := h.lenEq
  have g2 : a2 = none → len2 = 0 ∧ cap2 = 0 := fun h => by
    rcases w2 with ⟨_, h1, h2, _⟩ | ⟨x, hx, _⟩
    · exact ⟨h1, h2⟩
    · rw [h] at hx; cases hx
  have g3 : a3 = none → len3 = 0 ∧ cap3 = 0 := fun h => by
    rcases w3 with ⟨_, h1, h2, _⟩ | ⟨x, hx, _⟩
    · exact ⟨h1, h2⟩
    · rw [h] at hx; cases hx
  by_cases hw : wrongN M = 0
  · have hg := (wrong_good M).1 hw
    rw [hl] at hg
    by_cases hf : 0 ≤ a1 ∧ a1 < n
    · obtain ⟨f, rfl⟩ : ∃ f : Nat, a1 = f := ⟨a1.toNat, by omega⟩
      exact run a a2 a3 n c f len2 cap2 len3 cap3 M _ _ w h hg (by omega) w2.rd.1 w3.rd.1 g2 g3 r2 r3
    · exact bad a a2 a3 n c len2 cap2 len3 cap3 a1 M _ _ w h (.inr ⟨hw, by omega⟩) w2.rd.1 w3.rd.1 g2 g3 r2 r3
  · exact bad a a2 a3 n c len2 cap2 len3 cap3 a1 M _ _ w h (.inl hw) w2.rd.1 w3.rd.1 g2 g3 r2 r3
end Go.Proofs.Ytidnmdfpnmahpaa.chainParts
