/- gray.Bruijn: what it answers. No condition. -/
import Derived.Test.YtoinpfcmolkhiaaDoorPush
import Derived.Test.YtoinpfcmolkhiaaDoorBruL
import Derived.Test.YtoinpfcmolkhiaaDoorLeast
import Derived.Deep.LoopGhost
import Derived.Deep.DeepCutAuto
import Derived.Deep.CutRange
set_option linter.unusedSimpArgs false
set_option linter.unusedVariables false
namespace Go.Proofs.YtoinpfcmolkhiaaDoor
open Go.RowKit
set_option maxHeartbeats 3200000 in
set_option maxRecDepth 20000 in
theorem bruijn_run (n : Nat) (w : World) (h1 : 1 ≤ n) (h2 : n ≤ 10) :
    Calls Tryd.prog 10 #[.int .i64 n] w fun e w' => Below w.heap.size w w' ∧ ∃ a m c, e = .returned (.tuple #[.slice a m c, .int .i64 0]) ∧ RdB w' (.slice a m c) (bruN n) := by
  obtain ⟨i0, hi, hz0, hz1, hz2⟩ := info_parts Tryd.info4t
  have HBR : Hid (bruN n = (bst n (cnt n)).1) := by show _ = _; unfold bruN; rw [if_neg (by omega)]
  have HWL := Lib.hid (bst_w n h1)
  have HOL := Lib.hid (bst_o n h1)
  have HSO := Lib.hid (bst_some n)
  have HNO := Lib.hid (bst_none n (by omega) h1)
  have HC3 := Lib.hid (cnt_lt n (by omega) h1)
  have HS1 : Hid (∀ j, (bst n (j + 1)).1 = if n % (bst n j).2.length = 0 then (bst n j).1 ++ (bst n j).2 else (bst n j).1) := fun j => rfl
  have HS2 : Hid (∀ j, (bst n (j + 1)).2 = nxt n (bst n j).2) := fun j => rfl
  generalize cnt n = C at *
  have f1 : decide ((n : Int) < 0) = false := decide_eq_false (by omega)
  have f2 : decide (10 < (n : Int)) = false := decide_eq_false (by omega)
  have f2' : decide (10 < n) = false := decide_eq_false (by omega)
  have f3 : ((n : Int) == 0) = false := by rw [beq_eq_false_iff_ne]; omega
  have HO0 : Hid (OB (w.alloc (.cells #[.bool false] 4)) w.heap.size w.heap.size 1 (fun _ => false)) := ⟨by simp [tabB], .inr ⟨_, _, #[.bool false], rfl, Nat.le_refl _, heap_alloc_new w _, Nat.le_refl _, by decide, rfl, by simp [tabB]⟩⟩
  have HB0 : Hid (Below w.heap.size w (w.alloc (.cells #[.bool false] 4))) := (Below.refl _ _).alloc (Nat.le_refl _) _
  go_enter Tryd.func10, Tryd.ntmps10
  go_wp2_with fail
  generalize w.alloc (.cells #[.bool false] 4) = w0 at *
  go_loopg [4, 5] C (fun m ov wv wr => ∃ (j mm g t c : Nat) (f : Nat → Bool), mm = m ∧ j + mm = C ∧ Hid (wr.ownsRow w.heap.size 4 1 ov (bst n j).1.length ((bst n j).1.map Value.bool)) ∧ wv = .slice (some ⟨g, 0, none⟩) t c ∧ t ≤ c ∧ c ≤ 10 ∧ Hid (OB wr w.heap.size g c f) ∧ Hid ((bst n j).2 = tabB t f) ∧ Hid (∀ g', ov.ownBlock = some g' → g' ≠ g) ∧ Hid (Below w.heap.size w wr))
  case atStart => exact ⟨0, C, w.heap.size, 1, 1, fun _ => false, rfl, by omega, World.ownsRow_nil _ _ _ _, rfl, Nat.le_refl _, by omega, HO0.out, rfl, (fun g' (h : (Value.slice none 0 0).ownBlock = some g') => by cases h), HB0.out⟩
  case round =>
    clear HO0 HB0
    obtain ⟨j, m, g, t, c, f, hmm, hjm, HO, rfl, htc, hc10, HW, HWE, HNE, HB⟩ := hrel
    obtain ⟨ao, ko, hov⟩ : ∃ ao ko, u4 = .slice ao (bst n j).1.length ko := by
      rcases HO.out.2 with ⟨h, h0⟩ | ⟨g, cap, cur, h, _⟩
      · exact ⟨none, 0, by rw [h, h0]⟩
      · exact ⟨_, _, h⟩
    subst hov
    have hol := HOL.out j
    have hcc := HC3.out
    have hj300 : j * n ≤ 300 * 10 := Nat.mul_le_mul (by omega) h2
    by_cases hm : 0 < m
    · have hne := HSO.out j (by omega)
      have hl : (bst n j).2.length = t := by rw [HWE.out, tabB_len]
      have ht0 : 0 < t := by rw [← hl]; exact List.length_pos_iff.2 hne
      have htn : t ≤ n := by rw [← hl]; exact HWL.out j
      have hs1 := HS1.out j
      have hs2 := HS2.out j
      rw [hl] at hs1
      rw [HWE.out] at hs1 hs2
      have HS1j := Lib.hid hs1
      have HS2j := Lib.hid hs2
      have h9 : (0 : Int) < (t : Int) := by omega
      clear hne hl hs1 hs2
      go_upto_if 25 with (fail)
      go_cut [4] (fun ov wx => Hid (wx.ownsRow w.heap.size 4 1 ov (bst n (j + 1)).1.length ((bst n (j + 1)).1.map Value.bool)) ∧ Hid (OB wx w.heap.size g c f) ∧ Hid (Below w.heap.size w wx))
      case first =>
        by_cases hd : n % t = 0
        · have hd2 : ((n : Int) % (t : Int) == 0) = true := by rw [beq_iff_eq]; omega
          have hs := HS1j.out
          rw [if_pos hd] at hs
          have HS := Lib.hid hs
          have HL1 : Hid (((tabB t f).map Value.bool).length = t) := by show _ = _; rw [List.length_map, tabB_len]
          have HC1 : Hid (∀ ad, some (⟨g, 0, none⟩ : Addr) = some ad → ∀ i u, ((tabB t f).map Value.bool)[i]? = some u → wr.cell? (ad.add i) = some u) := fun ad had i u hu => by
            cases had
            rw [List.getElem?_map] at hu
            have hit : i < t := by
              rcases Nat.lt_or_ge i t with h | h
              · exact h
              · rw [List.getElem?_eq_none (by rw [tabB_len]; exact h)] at hu; cases hu
            have := HW.out.get i (by omega)
            simp [tabB, hit] at hu
            subst hu
            rw [WideShapes.add_plain, Nat.zero_add]; exact this
          have HO1 : Hid (∀ u ∈ (tabB t f).map Value.bool, u.oneCell' = true) := fun u hu => by obtain ⟨x, _, rfl⟩ := List.mem_map.1 hu; rfl
          have hbs := HB.out.size
          have hdm := hd
          clear hs hd
          go_wp2_with (at_builtin; go_must (refine push_list rfl _ _ 26 rfl w.heap.size 4 i0 (.bool false) 1 Tryd.underlying26 hi hz0 hz1 hz2 (by decide) rfl _ (bst n j).1.length ((bst n j).1.map Value.bool) rfl HO.out (some ⟨g, 0, none⟩) t c ((tabB t f).map Value.bool) rfl HL1.out (fun h => by cases h) HC1.out HO1.out (by omega) hbs ?_))
          intro v' w' ho' hg'
          go_wp2_with fail
          go_meet
          exact ⟨by rw [HS.out, List.length_append, tabB_len, List.map_append]; exact ho', own_same HW.out (fun g' h => by cases h; exact hg'.block g HW.out.lt.2 (fun e => HNE.out _ e.symm rfl)), HB.out.grown hg' HB.out.size (fun k hk => (HO.out.lt k hk).1)⟩
        · have hd2 : ((n : Int) % (t : Int) == 0) = false := by rw [beq_eq_false_iff_ne]; omega
          have hs := HS1j.out
          rw [if_neg hd] at hs
          have HS := Lib.hid hs
          clear hs hd
          go_wp2_with fail
          go_meet
          exact ⟨by rw [HS.out]; exact HO.out, HW.out, HB.out⟩
      case rest =>
        obtain ⟨HO2, HW2, HB2⟩ := hcut
        obtain ⟨ao2, ko2, hov⟩ : ∃ ao ko, u4 = .slice ao (bst n (j + 1)).1.length ko := by
          rcases HO2.out.2 with ⟨h, h0⟩ | ⟨g, cap, cur, h, _⟩
          · exact ⟨none, 0, by rw [h, h0]⟩
          · exact ⟨_, _, h⟩
        subst hov
        have HLT : Hid (∀ g', (Value.slice ao2 (bst n (j + 1)).1.length ko2).ownBlock = some g' → g' < wc.heap.size) := fun g' h => (HO2.out.lt g' h).2
        have HGL : Hid (g < wc.heap.size) := HW2.out.lt.2
        clear HO HW HB HNE
        go_wp2_with (refine wpList_make_full _ rfl _ _ 26 rfl wc.heap.size 4 i0 (.bool false) 1 Tryd.underlying26 hi hz0 hz1 .i64 .i64 _ _ n rfl rfl rfl rfl ?b2 ?b3 (Nat.le_refl _) ?_)
        case b2 => rw [hz2]; omega
        case b3 => unfold maxLen; omega
        intro w4 hown hgr
        have hB4 : Below wc.heap.size wc w4 := (Below.refl _ _).grown hgr (Nat.le_refl _) (fun k hk => by cases hk)
        have HG0 := Lib.hid ((OB.made hown).base HB2.out.size)
        have HO3 := Lib.hid (own_same HO2.out (fun g' h => hB4.block g' (HLT.out g' h)))
        have HW3 := Lib.hid (HW2.out.below hB4 (Nat.le_refl _))
        have HB3 := Lib.hid (HB2.out.trans (hB4.mono HB2.out.size))
        obtain ⟨g2, hg2⟩ : ∃ g2, wc.heap.size = g2 := ⟨_, rfl⟩
        rw [hg2] at HLT HGL HG0
        rw [hg2]
        clear hown hgr hB4 hg2 HO2 HW2 HB2
        go_wp2_with fail
        go_loopw [33] (fun iv wq => ∃ (i : Nat) (h : Nat → Bool), i ≤ n ∧ iv = .int .i64 i ∧ Hid (OB wq w.heap.size g2 n h) ∧ Hid (∀ k, k < i → h k = ext (tabB t f) k) ∧ Hid (wq.ownsRow w.heap.size 4 1 (.slice ao2 (bst n (j + 1)).1.length ko2) (bst n (j + 1)).1.length ((bst n (j + 1)).1.map Value.bool)) ∧ Hid (OB wq w.heap.size g c f) ∧ Hid (Below w.heap.size w wq)) (fun iv _ => n - (intOf iv).toNat)
        case atStart => exact ⟨0, _, Nat.zero_le _, rfl, HG0.out, fun k hk => absurd hk (Nat.not_lt_zero _), HO3.out, HW3.out, HB3.out⟩
        case round =>
          clear HG0 HO3 HW3 HB3
          obtain ⟨i, h, hin, rfl, HG, HE, HO, HW, HB⟩ := hrel
          by_cases hil : i < n
          · have hql : i % t < t := Nat.mod_lt _ ht0
            have hmod : (i : Int) % (t : Int) = ((i % t : Nat) : Int) := rfl
            have HEX : Hid (ext (tabB t f) i = f (i % t)) := by show _ = _; unfold ext; rw [tabB_len, tabB_get _ _ _ hql]
            have hii : (i : Int) < (n : Int) := by omega
            generalize i % t = q at *
            have cq := HW.out.get q (by omega)
            have ci := HG.out.get i hil
            have fi := HG.out.frozen i
            have hqi : (q : Int) < (t : Int) := by omega
            go_wp2_with fail
            have HGn := Lib.hid (HG.out.set i (f q))
            have HWn := Lib.hid (HW.out.store_ne (a := ⟨g2, i, none⟩) (by have := HGL.out; show g2 ≠ g; omega) (.bool (f q)))
            have HOn := Lib.hid (own_same (w' := wr.setCell ⟨g2, i, none⟩ (.bool (f q))) HO.out (fun g' h' => Below.heap_setCell _ _ _ _ (by have := HLT.out g' h'; show g' ≠ g2; omega)))
            have HBn := Lib.hid (HB.out.setCell (p := ⟨g2, i, none⟩) HG.out.lt.1 (.bool (f q)))
            have HEn : Hid (∀ k, k < i + 1 → (if k = i then f q else h k) = ext (tabB t f) k) := fun k hk => by
              by_cases e : k = i
              · rw [if_pos e, e, HEX.out]
              · rw [if_neg e]; exact HE.out k (by omega)
            go_roundw
            case rel => exact ⟨i + 1, _, by omega, by go_num, HGn.out, HEn.out, HOn.out, HWn.out, HBn.out⟩
            case measure => simp [intOf]; omega
          · obtain rfl : i = n := by omega
            have HG2 := Lib.hid (HG.out.congr fun k hk => HE.out k hk)
            have HTS : Hid (∀ k, trimN (ext (tabB t f)) (k + 1) = if ext (tabB t f) k then trimN (ext (tabB t f)) k else k + 1) := fun k => rfl
            have HNX : Hid ((bst i (j + 1)).2 = tabB (trimN (ext (tabB t f)) i) (fun q => if q = trimN (ext (tabB t f)) i - 1 then true else ext (tabB t f) q)) := HS2j.out
            clear HG HE
            generalize ext (tabB t f) = E at *
            obtain ⟨wq, hwq⟩ : ∃ wq : World, wr = wq := ⟨_, rfl⟩
            subst hwq
            go_wp2_with fail
            go_loop [6] (fun v6 => ∃ s : Nat, s ≤ i ∧ v6 = .slice (some ⟨g2, 0, none⟩) s i ∧ Hid (trimN E i = trimN E s)) (fun v6 => match v6 with | .slice _ s _ => s | _ => 0)
            case atStart => exact ⟨i, Nat.le_refl _, rfl, rfl⟩
            case round =>
              obtain ⟨s, hs, rfl, HT⟩ := hrel
              have HNEn : Hid (∀ g', (Value.slice ao2 (bst i (j + 1)).1.length ko2).ownBlock = some g' → g' ≠ g2) := fun g' h e => by
                have := HLT.out g' h
                omega
              rcases s with _ | r
              · have HNXs : Hid ((bst i (j + 1)).2 = tabB 0 E) := by show _ = _; rw [HNX.out, HT.out]; rfl
                go_wp2_with fail
                go_roundg (m - 1)
                case measure => omega
                case rel => exact ⟨j + 1, m - 1, g2, 0, i, E, by omega, by omega, HO.out, rfl, by omega, by omega, HG2.out, HNXs.out, HNEn.out, HB.out⟩
              · have cr := HG2.out.get r (by omega)
                have fr := HG2.out.frozen r
                have hts := HTS.out r
                cases her : E r with
                | true =>
                  rw [her] at cr hts
                  have HTn : Hid (trimN E i = trimN E r) := by show _ = _; rw [HT.out, hts]; rfl
                  clear hts her
                  go_wp2_with fail
                  go_round
                  case rel => exact ⟨r, by omega, rfl, HTn.out⟩
                  case measure => simp
                | false =>
                  rw [her] at cr hts
                  have HTn : Hid (trimN E i = r + 1) := by show _ = _; rw [HT.out, hts]; rfl
                  have HNXs : Hid ((bst i (j + 1)).2 = tabB (r + 1) (fun q => if q = r then true else E q)) := by
                    show _ = _
                    rw [HNX.out, HTn.out, Nat.add_sub_cancel]
                  have HGn := Lib.hid (HG2.out.set r true)
                  have HWn := Lib.hid (HW.out.store_ne (a := ⟨g2, r, none⟩) (by have := HGL.out; show g2 ≠ g; omega) (.bool true))
                  have HOn := Lib.hid (own_same (w' := wr.setCell ⟨g2, r, none⟩ (.bool true)) HO.out (fun g' h' => Below.heap_setCell _ _ _ _ (by have := HLT.out g' h'; show g' ≠ g2; omega)))
                  have HBn := Lib.hid (HB.out.setCell (p := ⟨g2, r, none⟩) HG2.out.lt.1 (.bool true))
                  clear hts her
                  go_wp2_with fail
                  go_roundg (m - 1)
                  case measure => omega
                  case rel => exact ⟨j + 1, m - 1, g2, r + 1, i, _, by omega, by omega, HOn.out, rfl, by omega, by omega, HGn.out, HNXs.out, HNEn.out, HBn.out⟩
    · obtain rfl : j = C := by omega
      have hwe : t = 0 := by
        have := HNO.out
        rw [HWE.out] at this
        have h2 := congrArg List.length this
        rwa [tabB_len] at h2
      subst hwe
      have HRO : Hid (RdB wr (.slice ao (bst n j).1.length ko) (bruN n)) := by
        show RdB _ _ _
        rw [HBR.out]
        exact RdB.own HO.out
      go_wp2_with fail
      go_ret2
      exact ⟨HB.out, _, _, _, rfl, HRO.out⟩
theorem bruijn_zero (w : World) :
    Calls Tryd.prog 10 #[.int .i64 0] w fun e w' => Below w.heap.size w w' ∧ ∃ a m c, e = .returned (.tuple #[.slice a m c, .int .i64 0]) ∧ RdB w' (.slice a m c) (bruN 0) := by
  go_enter Tryd.func10, Tryd.ntmps10
  go_wp2_with fail
  go_ret2
  exact ⟨(Below.refl _ _).alloc (Nat.le_refl _) _, _, _, _, rfl, RdB.built w [false] _ 4 rfl 1 rfl (by decide)⟩
theorem bruijn_any (n : Nat) (w : World) (h2 : n ≤ 10) :
    Calls Tryd.prog 10 #[.int .i64 n] w fun e w' => Below w.heap.size w w' ∧ ∃ a m c, e = .returned (.tuple #[.slice a m c, .int .i64 0]) ∧ RdB w' (.slice a m c) (bruN n) := by
  rcases Nat.eq_zero_or_pos n with rfl | h
  · exact bruijn_zero w
  · exact bruijn_run n w h h2
end Go.Proofs.YtoinpfcmolkhiaaDoor
