/- The walk of CoinNot. No condition. -/
import Derived.Test.YtkdidgkanfjfmaaMore
import Derived.Test.YtkdidgkanfjfmaaClone
import Derived.Deep.RegionHeld3
set_option linter.unusedSimpArgs false
set_option linter.unusedVariables false
namespace Go.Proofs.Ytkdidgkanfjfmaa.coinNot
open Go.RowKit Go.Proofs.Ytkdidgkanfjfmaa Go.WideShapes Go.ChangeShapes Go.ChangeAt
theorem gcd15 (a b : Nat) (w : World) : Calls Try.prog 15 #[.int .i64 a, .int .i64 b] w fun e w' => e = .returned (.int .i64 (Nat.gcd a b : Nat)) ∧ ∃ m, w' = w.drewN m := by
  go_enter Try.func15, Try.ntmps15
  go_wp2_with fail
  go_loopw [0, 1] (fun av bv wr => ∃ x y m : Nat, av = .int .i64 x ∧ bv = .int .i64 y ∧ Hid (Nat.gcd x y = Nat.gcd a b) ∧ Hid (wr = w.drewN m)) (fun _ bv _ => (intOf bv).toNat)
  case atStart => exact ⟨a, b, 0, rfl, rfl, rfl, rfl⟩
  case round =>
    obtain ⟨x, y, m, rfl, rfl, hg, hbel⟩ := hrel
    by_cases hy : 0 < y
    · have HG : Hid (Nat.gcd y (x % y) = Nat.gcd a b) := by
        show _ = _
        rw [← hg.out, Nat.gcd_comm y, ← Nat.gcd_rec, Nat.gcd_comm]
      have hlt : x % y < y := Nat.mod_lt _ hy
      go_wp2_with fail
      go_quiet (fail)
      go_wp2_with fail
      go_roundw
      case rel => exact ⟨y, x % y, _, rfl, rfl, HG.out, by rw [hbel.out, World.drewN_drewN]; exact rfl⟩
      case measure => simp [intOf]; omega
    · obtain rfl : y = 0 := by omega
      have HG : Hid (Nat.gcd a b = x) := by show _ = _; rw [← hg.out, Nat.gcd_zero_right]
      go_wp2_with fail
      go_ret
      exact ⟨by rw [HG.out]; rfl, m, hbel.out⟩
/-- From where the turned tape is made. -/
def Kept (w w1 : World) (n d : Int) : Prop := w.heap.size < w1.heap.size ∧ Below w.heap.size w w1 ∧ w1.cell? ⟨w.heap.size, 0, none⟩ = some (.int .i64 n) ∧ w1.cell? ⟨w.heap.size, 1, none⟩ = some (.int .i64 d)
theorem Kept.below {w w1 w2 : World} {n d : Int} (h : Kept w w1 n d) (hb : Below w1.heap.size w1 w2) : Kept w w2 n d :=
  ⟨Nat.lt_of_lt_of_le h.1 hb.size, h.2.1.trans (hb.mono h.2.1.size), ((bcell hb).1 _ 0 h.1).trans h.2.2.1, ((bcell hb).1 _ 1 h.1).trans h.2.2.2⟩
theorem Kept.drew {w w1 : World} {n d : Int} (h : Kept w w1 n d) : Kept w w1.drew n d := ⟨h.1, h.2.1.drew, h.2.2.1, h.2.2.2⟩
set_option maxHeartbeats 1600000 in
theorem walkI (a : Option Addr) (len cap : Nat) (z : List Bool) (hz : len ≤ 140737488351232) (n d : Int) (w : World) (h : RdB w (.slice a len cap) z) :
    Calls Try.prog 7 #[.slice a len cap, .agg #[.int .i64 n, .int .i64 d]] w fun e w' => e = .returned (.bool true) ∧ Below w.heap.size w w' := by
  obtain ⟨l1, l2, l3, -⟩ := h.app
  have HRD := Lib.hid h
  clear h
  go_enter Try.func7, Try.ntmps7
  go_wp2_with fail
  refine (alive_any _).mono ?_
  rintro e w1 ⟨rfl, hb1⟩
  obtain ⟨p0, p1⟩ := cell01 w (.int .i64 n) (.int .i64 d) 23
  have HK : Hid (Kept w w1 n d) := ⟨by have := hb1.size; simp at this; omega, ((Below.refl w.heap.size w).alloc (Nat.le_refl _) (.cells #[.int .i64 n, .int .i64 d] 23)).trans (hb1.mono (by simp)),
    ((bcell hb1).1 w.heap.size 0 (by simp)).trans p0, ((bcell hb1).1 w.heap.size 1 (by simp)).trans p1⟩
  clear hb1 p0 p1
  go_wp2_with fail
  refine (clone_any _ z _ (HRD.out.below HK.out.2.1 (Nat.le_refl _)) (by omega)).mono ?_
  rintro e w2 ⟨v, rfl, hown, hb2⟩
  have HK2 := Lib.hid (HK.out.below hb2)
  have hws := HK.out.2.1.size
  have HOWN := Lib.hid (own_base hown hws)
  have HNW := Lib.hid (Nat.lt_of_lt_of_le HK.out.1 (Nat.le_refl _))
  have HOW1 := Lib.hid hown
  clear hb2 HK hws
  have hrdv := Lib.hid (RdB.own hown)
  by_cases h0 : 0 < len
  · obtain ⟨g, cp, rfl, hn1, hn2, ho⟩ := OBC.of hown (by omega)
    have HO := Lib.hid ho
    have hg := own_lt ho
    have hcp : cp ≤ 9223372036854775807 := by unfold maxLen at hn2; exact hn2
    clear hown ho hn2 HOWN HOW1 hrdv
    rw [l1] at HO hn1 ⊢
    go_wp2_with fail
    go_loopw [20] (fun kv wr => ∃ k : Nat, k ≤ len ∧ kv = .int .i64 k ∧ Kept w wr n d ∧ OBC wr w1.heap.size g len cp (fun j => if j < k then !z.getD j false else z.getD j false)) (fun kv _ => len - (intOf kv).toNat)
    case atStart => exact ⟨0, Nat.zero_le _, rfl, HK2.out, HO.out.congr (fun j _ => by rw [if_neg (Nat.not_lt_zero _)])⟩
    case round =>
      obtain ⟨k, hk, rfl, hkept, ho⟩ := hrel
      by_cases hlt : k < len
      · have c0 := ho.get k hlt
        rw [if_neg (Nat.lt_irrefl _)] at c0
        have fr := ho.frozen k
        have hset := ho.set k (!z.getD k false)
        have HS : Hid (OBC (wr.setCell ⟨g, k, none⟩ (.bool (!z.getD k false))) w1.heap.size g len cp (fun j => if j < k + 1 then !z.getD j false else z.getD j false)) := hset.congr (fun j _ => by
          by_cases e : j = k
          · subst e; rw [if_pos rfl, if_pos (Nat.lt_succ_self _)]
          · rw [if_neg e]
            by_cases e2 : j < k
            · rw [if_pos e2, if_pos (by omega)]
            · rw [if_neg e2, if_neg (by omega)])
        have HKP := Lib.hid (show Kept w (wr.setCell ⟨g, k, none⟩ (.bool (!z.getD k false))) n d from
          ⟨by simpa using hkept.1, hkept.2.1.setCell (by have := HNW.out; simp; omega) _, 
            (World.cell?_setCell_other (w := wr) (a := ⟨g, k, none⟩) (b := ⟨w.heap.size, 0, none⟩) _ (by intro e; cases e; have := HNW.out; omega)).trans hkept.2.2.1,
            (World.cell?_setCell_other (w := wr) (a := ⟨g, k, none⟩) (b := ⟨w.heap.size, 1, none⟩) _ (by intro e; cases e; have := HNW.out; omega)).trans hkept.2.2.2⟩)
        clear ho hset hkept
        generalize z.getD k false = x at *
        go_wp2_with fail
        go_roundw
        case rel => exact ⟨k + 1, by omega, by go_num, HKP.out, HS.out⟩
        case measure => simp [intOf]; omega
      · obtain rfl : k = len := by omega
        have hrd := ho.rd
        have ht : tabB k (fun j => if j < k then !z.getD j false else z.getD j false) = z.map (!·) :=
          list_extB (tabB_len _ _) (by simp [l1]) fun j hj => by
            rw [tabB_get _ _ _ hj, if_pos hj]
            simp [List.getD_eq_getElem?_getD, List.getElem?_eq_getElem (show j < z.length by omega)]
        rw [ht] at hrd
        have HM := Lib.hid hrd
        clear ho hrd ht
        have k0 := hkept.2.2.1
        have k1 := hkept.2.2.2
        have HKP := Lib.hid hkept
        have HRT := Lib.hid (HRD.out.below hkept.2.1 (Nat.le_refl _))
        clear hkept
        go_wp2_with fail
        refine (toss_any _ z n d _ HRT.out).mono ?_
        rintro e w4 ⟨hb4, x, u, c, rfl, hx⟩
        have HX := Lib.hid hx
        have HKP4 := Lib.hid (HKP.out.below hb4)
        have HM4 := Lib.hid (HM.out.below hb4 (Nat.le_refl _))
        have k0 := HKP4.out.2.2.1
        have k1 := HKP4.out.2.2.2
        clear hb4 hx HM HKP HRT
        go_wp2_with fail
        refine (toss_any _ (z.map (!·)) (wrap64 (d - n)) d _ HM4.out).mono ?_
        rintro e w5 ⟨hb5, y, v, c', rfl, hy⟩
        have HY := Lib.hid hy
        have HKP5 := Lib.hid (HKP4.out.below hb5)
        clear hb5 hy k0 k1 HM4 HKP4
        have k0 := HKP5.out.2.2.1
        have k1 := HKP5.out.2.2.2
        by_cases hc : c = 0
        · subst hc
          by_cases hc' : c' = 0
          · subst hc'
            obtain ⟨hr, ht⟩ : RightP n d ∧ tossN n.toNat d.toNat z = some (x, u) := by
              rcases HX.out with ⟨_, h1, h2⟩ | ⟨h, _⟩ | ⟨h, _⟩
              · exact ⟨h1, h2⟩
              · cases h
              · cases h
            obtain ⟨r1, r2, r3, r4⟩ := hr
            have hw : wrap64 (d - n) = d - n := by unfold wrap64; omega
            have ht' : tossN (d.toNat - n.toNat) d.toNat (z.map (!·)) = some (y, v) := by
              rcases HY.out with ⟨_, h1, h2⟩ | ⟨h, _⟩ | ⟨h, _⟩
              · rw [hw, show (d - n).toNat = d.toNat - n.toNat by omega] at h2; exact h2
              · cases h
              · cases h
            rw [tossN_not (by omega) (by omega), ht] at ht'
            simp only [Option.map_some, Option.some.injEq, Prod.mk.injEq] at ht'
            obtain ⟨rfl, rfl⟩ := ht'
            clear HX HY ht hw
            obtain ⟨N, rfl⟩ : ∃ k : Nat, n = k := ⟨n.toNat, by omega⟩
            obtain ⟨D, rfl⟩ : ∃ k : Nat, d = k := ⟨d.toNat, by omega⟩
            have G1 := Lib.hid (fun w => gcd15 N D w)
            have hgp : 0 < Nat.gcd N D := Nat.gcd_pos_of_pos_right _ (by omega)
            generalize Nat.gcd N D = gg at *
            have V1 : (D : Int) / (gg : Int) = ((D / gg : Nat) : Int) := by simp
            have v1b : D / gg ≤ D := Nat.div_le_self _ _
            generalize D / gg = v1 at *
            have hgz : ¬ ((gg : Nat) : Int) = 0 := by omega
            cases x
            · go_wp2_with fail
              go_quiet ((go_at_call 15; exact Calls.quiet_of (G1.out _)))
              go_wp2_with fail
              all_goals
                go_ret
                exact ⟨by simp, HKP5.out.2.1.drewN _⟩
            · go_wp2_with fail
              go_quiet ((go_at_call 15; exact Calls.quiet_of (G1.out _)))
              go_wp2_with fail
              all_goals
                go_ret
                exact ⟨by simp, HKP5.out.2.1.drewN _⟩
          · have e1 : (c' != 0) = true := by rw [bne_iff_ne]; exact hc'
            clear HX HY
            go_wp2_with fail
            go_ret
            exact ⟨by simp, HKP5.out.2.1⟩
        · have e1 : (c != 0) = true := by rw [bne_iff_ne]; exact hc
          clear HX HY
          go_wp2_with fail
          go_ret
          exact ⟨by simp, HKP5.out.2.1⟩
  · have hz0 : z = [] := List.length_eq_zero_iff.1 (by omega)
    obtain ⟨a4, cp, rfl, -, hcp, -⟩ := hrdv.out.open
    have HM : Hid (RdB w2 (.slice a4 z.length cp) (z.map (!·))) := by
      show RdB _ _ _
      rw [hz0]
      have := hrdv.out
      rw [hz0] at this
      exact this
    have hkept := HK2.out
    clear hown hrdv HOWN HOW1
    obtain rfl : len = 0 := by omega
    rw [l1] at HM ⊢
    go_wp2_with fail
    refine wp_loop_rounds 1 ?_
    rw [rounds_succ]
    have k0 := hkept.2.2.1
    have k1 := hkept.2.2.2
    have HKP := Lib.hid hkept
    have HRT := Lib.hid (HRD.out.below hkept.2.1 (Nat.le_refl _))
    clear hkept
    go_wp2_with fail
    refine (toss_any _ z n d _ HRT.out).mono ?_
    rintro e w4 ⟨hb4, x, u, c, rfl, hx⟩
    have HX := Lib.hid hx
    have HKP4 := Lib.hid (HKP.out.below hb4)
    have HM4 := Lib.hid (HM.out.below hb4 (Nat.le_refl _))
    have k0 := HKP4.out.2.2.1
    have k1 := HKP4.out.2.2.2
    clear hb4 hx HM HKP HRT
    go_wp2_with fail
    refine (toss_any _ (z.map (!·)) (wrap64 (d - n)) d _ HM4.out).mono ?_
    rintro e w5 ⟨hb5, y, v, c', rfl, hy⟩
    have HY := Lib.hid hy
    have HKP5 := Lib.hid (HKP4.out.below hb5)
    clear hb5 hy k0 k1 HM4 HKP4
    have k0 := HKP5.out.2.2.1
    have k1 := HKP5.out.2.2.2
    by_cases hc : c = 0
    · subst hc
      by_cases hc' : c' = 0
      · subst hc'
        obtain ⟨hr, ht⟩ : RightP n d ∧ tossN n.toNat d.toNat z = some (x, u) := by
          rcases HX.out with ⟨_, h1, h2⟩ | ⟨h, _⟩ | ⟨h, _⟩
          · exact ⟨h1, h2⟩
          · cases h
          · cases h
        obtain ⟨r1, r2, r3, r4⟩ := hr
        have hw : wrap64 (d - n) = d - n := by unfold wrap64; omega
        have ht' : tossN (d.toNat - n.toNat) d.toNat (z.map (!·)) = some (y, v) := by
          rcases HY.out with ⟨_, h1, h2⟩ | ⟨h, _⟩ | ⟨h, _⟩
          · rw [hw, show (d - n).toNat = d.toNat - n.toNat by omega] at h2; exact h2
          · cases h
          · cases h
        rw [tossN_not (by omega) (by omega), ht] at ht'
        simp only [Option.map_some, Option.some.injEq, Prod.mk.injEq] at ht'
        obtain ⟨rfl, rfl⟩ := ht'
        clear HX HY ht hw
        obtain ⟨N, rfl⟩ : ∃ k : Nat, n = k := ⟨n.toNat, by omega⟩
        obtain ⟨D, rfl⟩ : ∃ k : Nat, d = k := ⟨d.toNat, by omega⟩
        have G1 := Lib.hid (fun w => gcd15 N D w)
        have hgp : 0 < Nat.gcd N D := Nat.gcd_pos_of_pos_right _ (by omega)
        generalize Nat.gcd N D = gg at *
        have V1 : (D : Int) / (gg : Int) = ((D / gg : Nat) : Int) := by simp
        have v1b : D / gg ≤ D := Nat.div_le_self _ _
        generalize D / gg = v1 at *
        have hgz : ¬ ((gg : Nat) : Int) = 0 := by omega
        cases x
        · go_wp2_with fail
          go_quiet ((go_at_call 15; exact Calls.quiet_of (G1.out _)))
          go_wp2_with fail
          all_goals
            go_ret
            exact ⟨by simp, HKP5.out.2.1.drewN _⟩
        · go_wp2_with fail
          go_quiet ((go_at_call 15; exact Calls.quiet_of (G1.out _)))
          go_wp2_with fail
          all_goals
            go_ret
            exact ⟨by simp, HKP5.out.2.1.drewN _⟩
      · have e1 : (c' != 0) = true := by rw [bne_iff_ne]; exact hc'
        clear HX HY
        go_wp2_with fail
        go_ret
        exact ⟨by simp, HKP5.out.2.1⟩
    · have e1 : (c != 0) = true := by rw [bne_iff_ne]; exact hc
      clear HX HY
      go_wp2_with fail
      go_ret
      exact ⟨by simp, HKP5.out.2.1⟩
theorem walk (a : Option Addr) (len cap : Nat) (z : List Bool) (p : Int × Int) (w : World) (h : IsRowB w a len cap z) (hr : len ≤ 140737488351232) (_ : I64 p.1 ∧ I64 p.2) :
    Calls Try.prog 7 #[.slice a len cap, .agg #[.int .i64 p.1, .int .i64 p.2]] w fun e w' => e = .returned (.bool true) ∧ Below w.heap.size w w' :=
  walkI a len cap z hr p.1 p.2 w h.rd
end Go.Proofs.Ytkdidgkanfjfmaa.coinNot
