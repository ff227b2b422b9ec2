/- The walk of PermGroup. No condition. -/
import Derived.Test.YtdneljpimocgfaaAl
import Derived.Test.YtdneljpimocgfaaIsSorted
set_option linter.unusedSimpArgs false
set_option linter.unusedVariables false
namespace Go.Proofs.Ytdneljpimocgfaa
open Go.RowKit
theorem inv_of {zs : List Int} (h : OkP zs) {k : Nat} (hk : k < zs.length) : inv (nd zs) zs.length (nd zs k) = k := inv_at (fun i j hi hj e => h.inj hi hj e) hk
theorem of_inv {zs : List Int} (h : OkP zs) {y : Nat} (hy : y < zs.length) : nd zs (inv (nd zs) zs.length y) = y := by
  obtain ⟨i, hi, rfl⟩ := onto zs.length (nd zs) (fun i hi => h.lt hi) (fun i j hi hj e => h.inj hi hj e) y hy
  rw [inv_of h hi]
theorem okp_then {zs ys : List Int} (h : OkP zs) (h2 : OkP ys) (hl : zs.length = ys.length) : OkP (tabI zs.length fun k => nd ys (nd zs k)) :=
  OkP.mk' h.1 (fun i hi => by have := h2.lt (i := nd zs i) (by have := h.lt hi; omega); omega) fun i j hi hj e =>
    h.inj hi hj (h2.inj (by have := h.lt hi; omega) (by have := h.lt hj; omega) e)
theorem okp_back {zs : List Int} (h : OkP zs) : OkP (tabI zs.length (inv (nd zs) zs.length)) :=
  OkP.mk' h.1 (fun i hi => inv_lt (by omega)) fun i j hi hj e => by rw [← of_inv h hi, ← of_inv h hj, e]
theorem back_back {zs : List Int} (h : OkP zs) : tabI (tabI zs.length (inv (nd zs) zs.length)).length (inv (nd (tabI zs.length (inv (nd zs) zs.length))) (tabI zs.length (inv (nd zs) zs.length)).length) = zs := by
  have e := h.tab
  rw [tabI_len]
  have e2 : tabI zs.length (inv (nd (tabI zs.length (inv (nd zs) zs.length))) zs.length) = tabI zs.length (nd zs) := tabI_congr fun k hk => by
    have hb := okp_back h
    have h1 := inv_of hb (k := nd zs k) (by rw [tabI_len]; exact h.lt hk)
    rw [tabI_len] at h1
    rw [nd_tabI, if_pos (h.lt hk), inv_of h hk] at h1
    exact h1
  rw [e2]
  exact e.symm
end Go.Proofs.Ytdneljpimocgfaa
namespace Go.Proofs.Ytdneljpimocgfaa.permGroup
open Go.RowKit Go.Proofs.Ytdneljpimocgfaa
set_option maxHeartbeats 3200000 in
theorem walk_any (v v2 v3 : Value) (zs ys ts : List Int) (w : World) (h : Rd w v zs) (h2 : Rd w v2 ys) (h3 : Rd w v3 ts) :
    Calls Try.prog 6 #[v, v2, v3] w fun e w' => e = .returned (.bool true) ∧ Below w.heap.size w w' := by
  have HR := Lib.hid h
  have HR2 := Lib.hid h2
  have HR3 := Lib.hid h3
  clear h h2 h3
  go_enter Try.func6, Try.ntmps6
  go_wp2_with fail
  refine (alive_any _).mono ?_
  rintro e w1 ⟨rfl, hb1⟩
  have HB1 := Lib.hid hb1
  have HA1 := Lib.hid (HR.out.below hb1 (Nat.le_refl _))
  have HA2 := Lib.hid (HR2.out.below hb1 (Nat.le_refl _))
  have HA3 := Lib.hid (HR3.out.below hb1 (Nat.le_refl _))
  clear hb1 HR HR2 HR3
  go_wp2_with fail
  by_cases k1 : OkP zs ∧ OkP ys ∧ zs.length = ys.length
  · obtain ⟨kz, ky, kl⟩ := k1
    refine (then_ok _ _ _ _ _ HA1.out HA2.out kz ky kl).mono ?_
    rintro e w2 ⟨hb2, ua, rfl, hua⟩
    have HB2 := Lib.hid (HB1.out.trans (hb2.mono HB1.out.size))
    have HC1 := Lib.hid (HA1.out.below hb2 (Nat.le_refl _))
    have HC2 := Lib.hid (HA2.out.below hb2 (Nat.le_refl _))
    have HC3 := Lib.hid (HA3.out.below hb2 (Nat.le_refl _))
    have HUA := Lib.hid hua
    have KZ := Lib.hid kz
    have KY := Lib.hid ky
    have KL := Lib.hid kl
    clear hb2 HA1 HA2 HA3 hua kz ky kl
    go_wp2_with fail
    by_cases k2 : OkP ys ∧ OkP ts ∧ ys.length = ts.length
    · obtain ⟨-, kt, kl2⟩ := k2
      refine (then_ok _ _ _ _ _ HC2.out HC3.out KY.out kt kl2).mono ?_
      rintro e w3 ⟨hb3, ub, rfl, hub⟩
      have HB3 := Lib.hid (HB2.out.trans (hb3.mono HB2.out.size))
      have HD1 := Lib.hid (HC1.out.below hb3 (Nat.le_refl _))
      have HD3 := Lib.hid (HC3.out.below hb3 (Nat.le_refl _))
      have HUA3 := Lib.hid (HUA.out.below hb3 (Nat.le_refl _))
      have HUB := Lib.hid hub
      have KT := Lib.hid kt
      have KL2 := Lib.hid kl2
      clear hb3 hub kt kl2 HC1 HC2 HC3 HUA
      go_wp2_with fail
      refine (back_ok _ _ _ HD1.out KZ.out).mono ?_
      rintro e w4 ⟨hb4, uu, rfl, huu⟩
      have HB4 := Lib.hid (HB3.out.trans (hb4.mono HB3.out.size))
      have HE1 := Lib.hid (HD1.out.below hb4 (Nat.le_refl _))
      have HE3 := Lib.hid (HD3.out.below hb4 (Nat.le_refl _))
      have HUA4 := Lib.hid (HUA3.out.below hb4 (Nat.le_refl _))
      have HUB4 := Lib.hid (HUB.out.below hb4 (Nat.le_refl _))
      have HUU := Lib.hid huu
      have KA := Lib.hid (okp_then KZ.out KY.out KL.out)
      have KB := Lib.hid (okp_then KY.out KT.out KL2.out)
      have KU := Lib.hid (okp_back KZ.out)
      clear hb4 huu HD1 HD3 HUA3 HUB
      go_wp2_with fail
      refine (then_ok _ _ _ _ _ HUA4.out HE3.out KA.out KT.out (by rw [tabI_len, KL.out, KL2.out])).mono ?_
      rintro e w5 ⟨hb5, ux, rfl, hux⟩
      have HB5 := Lib.hid (HB4.out.trans (hb5.mono HB4.out.size))
      have HF1 := Lib.hid (HE1.out.below hb5 (Nat.le_refl _))
      have HUB5 := Lib.hid (HUB4.out.below hb5 (Nat.le_refl _))
      have HUU5 := Lib.hid (HUU.out.below hb5 (Nat.le_refl _))
      have HUX := Lib.hid hux
      clear hb5 hux HE1 HE3 HUA4 HUB4 HUU
      go_wp2_with fail
      refine (then_ok _ _ _ _ _ HF1.out HUB5.out KZ.out KB.out (by rw [tabI_len, KL.out])).mono ?_
      rintro e w6 ⟨hb6, uy, rfl, huy⟩
      have HB6 := Lib.hid (HB5.out.trans (hb6.mono HB5.out.size))
      have HG1 := Lib.hid (HF1.out.below hb6 (Nat.le_refl _))
      have HUU6 := Lib.hid (HUU5.out.below hb6 (Nat.le_refl _))
      have HUX6 := Lib.hid (HUX.out.below hb6 (Nat.le_refl _))
      have HUY := Lib.hid huy
      clear hb6 huy HF1 HUB5 HUU5 HUX
      go_wp2_with fail
      refine (then_ok _ _ _ _ _ HG1.out HUU6.out KZ.out KU.out (by rw [tabI_len])).mono ?_
      rintro e w7 ⟨hb7, uz, rfl, huz⟩
      have HB7 := Lib.hid (HB6.out.trans (hb7.mono HB6.out.size))
      have HH1 := Lib.hid (HG1.out.below hb7 (Nat.le_refl _))
      have HUU7 := Lib.hid (HUU6.out.below hb7 (Nat.le_refl _))
      have HUX7 := Lib.hid (HUX6.out.below hb7 (Nat.le_refl _))
      have HUY7 := Lib.hid (HUY.out.below hb7 (Nat.le_refl _))
      have HUZ := Lib.hid huz
      clear hb7 huz HG1 HUU6 HUX6 HUY
      go_wp2_with fail
      refine (back_ok _ _ _ HUU7.out KU.out).mono ?_
      rintro e w8 ⟨hb8, uv, rfl, huv⟩
      have HB8 := Lib.hid (HB7.out.trans (hb8.mono HB7.out.size))
      have HI1 := Lib.hid (HH1.out.below hb8 (Nat.le_refl _))
      have HUX8 := Lib.hid (HUX7.out.below hb8 (Nat.le_refl _))
      have HUY8 := Lib.hid (HUY7.out.below hb8 (Nat.le_refl _))
      have HUZ8 := Lib.hid (HUZ.out.below hb8 (Nat.le_refl _))
      rw [back_back KZ.out] at huv
      have HUV := Lib.hid huv
      clear hb8 huv HH1 HUU7 HUX7 HUY7 HUZ
      have XY : Hid (tabI (tabI zs.length fun k => nd ys (nd zs k)).length (fun k => nd ts (nd (tabI zs.length fun k => nd ys (nd zs k)) k)) = tabI zs.length (fun k => nd (tabI ys.length fun k => nd ts (nd ys k)) (nd zs k))) := by
        show _ = _
        rw [tabI_len]
        refine tabI_congr fun k hk => ?_
        rw [nd_tabI, if_pos hk, nd_tabI, if_pos (by rw [← KL.out]; exact KZ.out.lt hk)]
      have ZZ : Hid (tabI zs.length (fun k => nd (tabI zs.length (inv (nd zs) zs.length)) (nd zs k)) = tabI zs.length (fun k => k)) := by
        show _ = _
        refine tabI_congr fun k hk => ?_
        rw [nd_tabI, if_pos (KZ.out.lt hk), inv_of KZ.out hk]
      rw [XY.out] at HUX8
      rw [ZZ.out] at HUZ8
      have OZ : Hid (decide (OkP (tabI zs.length (fun k => k))) = true) := decide_eq_true (OkP.mk' KZ.out.1 (fun i hi => hi) (fun i j _ _ e => e))
      have SZ : Hid (∀ i, i + 1 < (tabI zs.length (fun k => k)).length → (tabI zs.length (fun k => k)).getD i 0 ≤ (tabI zs.length (fun k => k)).getD (i + 1) 0) := fun i hi => by
        rw [tabI_len] at hi
        rw [tabI_get _ _ _ (by omega), tabI_get _ _ _ hi]
        omega
      clear XY ZZ KA KB KU
      go_wp2_with fail
      refine (equal_any _ _ _ _ _ HUX8.out HUY8.out).mono ?_
      rintro e w9 ⟨rfl, hb9⟩
      have HB9 := Lib.hid (HB8.out.trans (hb9.mono HB8.out.size))
      have HJ1 := Lib.hid (HI1.out.below hb9 (Nat.le_refl _))
      have HUZ9 := Lib.hid (HUZ8.out.below hb9 (Nat.le_refl _))
      have HUV9 := Lib.hid (HUV.out.below hb9 (Nat.le_refl _))
      clear hb9 HI1 HUZ8 HUV
      go_wp2_with fail
      refine (issorted_yes _ _ SZ.out _ HUZ9.out).mono ?_
      rintro e w10 ⟨rfl, hb10⟩
      have HB10 := Lib.hid (HB9.out.trans (hb10.mono HB9.out.size))
      have HK1 := Lib.hid (HJ1.out.below hb10 (Nat.le_refl _))
      have HUZ10 := Lib.hid (HUZ9.out.below hb10 (Nat.le_refl _))
      have HUV10 := Lib.hid (HUV9.out.below hb10 (Nat.le_refl _))
      clear hb10 HJ1 HUZ9 HUV9
      go_wp2_with fail
      refine (equal_any _ _ _ _ _ HUV10.out HK1.out).mono ?_
      rintro e w11 ⟨rfl, hb11⟩
      have HB11 := Lib.hid (HB10.out.trans (hb11.mono HB10.out.size))
      have HUZ11 := Lib.hid (HUZ10.out.below hb11 (Nat.le_refl _))
      clear hb11 HK1 HUZ10 HUV10
      go_wp2_with fail
      have hr12 := right_any _ _ _ HUZ11.out
      rw [OZ.out] at hr12
      refine hr12.mono ?_
      rintro e w12 ⟨rfl, hb12⟩
      have HB12 := Lib.hid (HB11.out.trans (hb12.mono HB11.out.size))
      clear hb12 hr12
      go_wp2_with fail
      go_ret
      exact ⟨by simp, HB12.out⟩
    · refine (then_bad _ _ _ _ _ HC2.out HC3.out k2).mono ?_
      rintro e w3 ⟨hb3, rfl⟩
      have HB3 := Lib.hid (HB2.out.trans (hb3.mono HB2.out.size))
      have HD1 := Lib.hid (HC1.out.below hb3 (Nat.le_refl _))
      clear hb3 k2
      go_wp2_with fail
      refine (back_ok _ _ _ HD1.out KZ.out).mono ?_
      rintro e w4 ⟨hb4, uu, rfl, huu⟩
      have HB4 := Lib.hid (HB3.out.trans (hb4.mono HB3.out.size))
      clear hb4 huu
      go_wp2_with fail
      go_ret
      exact ⟨by simp, HB4.out⟩
  · refine (then_bad _ _ _ _ _ HA1.out HA2.out k1).mono ?_
    rintro e w2 ⟨hb2, rfl⟩
    have HB2 := Lib.hid (HB1.out.trans (hb2.mono HB1.out.size))
    have HC1 := Lib.hid (HA1.out.below hb2 (Nat.le_refl _))
    have HC2 := Lib.hid (HA2.out.below hb2 (Nat.le_refl _))
    have HC3 := Lib.hid (HA3.out.below hb2 (Nat.le_refl _))
    clear hb2 k1
    go_wp2_with fail
    have hthen : Calls Try.prog 17 #[v2, v3] w2 fun e w' => Below w2.heap.size w2 w' ∧ ∃ u c, e = .returned (.tuple #[u, .int .i64 c]) := by
      by_cases k2 : OkP ys ∧ OkP ts ∧ ys.length = ts.length
      · obtain ⟨ky, kt, kl2⟩ := k2
        refine (then_ok _ _ _ _ _ HC2.out HC3.out ky kt kl2).mono ?_
        rintro e w' ⟨hb, u, rfl, _⟩
        exact ⟨hb, u, _, rfl⟩
      · refine (then_bad _ _ _ _ _ HC2.out HC3.out k2).mono ?_
        rintro e w' ⟨hb, rfl⟩
        exact ⟨hb, _, _, rfl⟩
    refine hthen.mono ?_
    rintro e w3 ⟨hb3, u, c, rfl⟩
    have HB3 := Lib.hid (HB2.out.trans (hb3.mono HB2.out.size))
    have HD1 := Lib.hid (HC1.out.below hb3 (Nat.le_refl _))
    clear hb3 hthen
    go_wp2_with fail
    have hback : Calls Try.prog 14 #[v] w3 fun e w' => Below w3.heap.size w3 w' ∧ ∃ u c, e = .returned (.tuple #[u, .int .i64 c]) := by
      by_cases k2 : OkP zs
      · refine (back_ok _ _ _ HD1.out k2).mono ?_
        rintro e w' ⟨hb, u, rfl, _⟩
        exact ⟨hb, u, _, rfl⟩
      · refine (back_bad _ _ _ HD1.out k2).mono ?_
        rintro e w' ⟨hb, rfl⟩
        exact ⟨hb, _, _, rfl⟩
    refine hback.mono ?_
    rintro e w4 ⟨hb4, u4, c4, rfl⟩
    have HB4 := Lib.hid (HB3.out.trans (hb4.mono HB3.out.size))
    clear hb4 hback
    go_wp2_with fail
    go_ret
    exact ⟨by simp, HB4.out⟩
theorem walk (a0 : Option Addr) (len0 cap0 : Nat) (z0 : List Int) (a1 : Option Addr) (len1 cap1 : Nat) (z1 : List Int) (a2 : Option Addr) (len2 cap2 : Nat) (z2 : List Int) (w : World) (w0 : IsRow .i64 w a0 len0 cap0 z0) (w1 : IsRow .i64 w a1 len1 cap1 z1) (w2 : IsRow .i64 w a2 len2 cap2 z2) :
    Calls Try.prog 6 #[.slice a0 len0 cap0, .slice a1 len1 cap1, .slice a2 len2 cap2] w fun e w' => e = .returned (.bool true) ∧ Below w.heap.size w w' :=
  walk_any _ _ _ _ _ _ w w0.rd.1 w1.rd.1 w2.rd.1
end Go.Proofs.Ytdneljpimocgfaa.permGroup
