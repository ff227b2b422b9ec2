/- The walk of NatField. Condition: rows within the reach. -/
import Derived.Test.YtkaejoejaohpcaaAl
import Derived.Test.YtkaejoejaohpcaaErr
set_option linter.unusedSimpArgs false
set_option linter.unusedVariables false
namespace Go.Proofs.Ytkaejoejaohpcaa.natField
open Go.RowKit Go.Proofs.Ytkaejoejaohpcaa
/-- What a call answers: a number V, if ok; else nothing, and 1. -/
def Res (w0 : World) (ok : Prop) (V B : Nat) (e : Ending) (w' : World) : Prop :=
  Below w0.heap.size w0 w' ∧ ((ok ∧ ∃ b k d l, e = .returned (.tuple #[.slice b k d, .int .i64 0]) ∧ Rd w' (.slice b k d) (castN l) ∧ Canon l ∧ val l = V ∧ k ≤ B) ∨ (¬ ok ∧ e = .returned (.tuple #[.slice none 0 0, .int .i64 1])))
theorem mul_res (a : Option Addr) (n c : Nat) (la : List Nat) (a2 : Option Addr) (m c2 : Nat) (lb : List Nat) (w : World) (ha : Rd w (.slice a n c) (castN la)) (hb : Rd w (.slice a2 m c2) (castN lb)) (wa : Wd la) (wb : Wd lb) (hnm : n + m ≤ 64) :
    Calls Try.prog 8 #[.slice a n c, .slice a2 m c2] w (Res w (Canon la ∧ Canon lb) (val la * val lb) (n + m)) := by
  have e1 := ha.lenEq.1
  have e2 := hb.lenEq.1
  by_cases h : Canon la ∧ Canon lb
  · refine (mul_ok a n c la a2 m c2 lb w _ ha hb h.1 h.2 hnm rfl).mono ?_
    rintro e w' ⟨h1, h2⟩
    exact ⟨h1, .inl ⟨h, h2⟩⟩
  · refine (mul_err a n c la a2 m c2 lb w ha hb ?_).mono ?_
    · cases h1 : rightB la
      · exact .inl rfl
      · cases h2 : rightB lb
        · exact .inr rfl
        · exact absurd ⟨((rightB_iff wa).1 h1).2, ((rightB_iff wb).1 h2).2⟩ h
    · rintro e w' ⟨h1, rfl⟩
      exact ⟨Below.refl _ _, .inr ⟨h, h1⟩⟩
theorem add_res (a : Option Addr) (n c : Nat) (la : List Nat) (a2 : Option Addr) (m c2 : Nat) (lb : List Nat) (w : World) (ha : Rd w (.slice a n c) (castN la)) (hb : Rd w (.slice a2 m c2) (castN lb)) (wa : Wd la) (wb : Wd lb) (hn : n ≤ 63) (hm : m ≤ 63) :
    Calls Try.prog 9 #[.slice a n c, .slice a2 m c2] w (Res w (Canon la ∧ Canon lb) (val la + val lb) (max n m + 1)) := by
  have e1 := ha.lenEq.1
  have e2 := hb.lenEq.1
  by_cases h : Canon la ∧ Canon lb
  · refine (add_ok a n c la a2 m c2 lb w _ ha hb h.1 h.2 hn hm rfl).mono ?_
    rintro e w' ⟨h1, h2⟩
    exact ⟨h1, .inl ⟨h, h2⟩⟩
  · refine (add_err a n c la a2 m c2 lb w ha hb ?_).mono ?_
    · cases h1 : rightB la
      · exact .inl rfl
      · cases h2 : rightB lb
        · exact .inr rfl
        · exact absurd ⟨((rightB_iff wa).1 h1).2, ((rightB_iff wb).1 h2).2⟩ h
    · rintro e w' ⟨h1, rfl⟩
      exact ⟨Below.refl _ _, .inr ⟨h, h1⟩⟩
theorem dist {p s r x y a b c : Nat} (hp : p = a * b) (hs : s = b + c) (hr : r = a * c) (hx : x = a * s) (hy : y = p + r) : x = y := by
  rw [hx, hy, hs, hp, hr, Nat.mul_add]
set_option maxHeartbeats 1600000 in
theorem run (a : Option Addr) (n ca : Nat) (la : List Nat) (b : Option Addr) (m cb : Nat) (lb : List Nat) (c : Option Addr) (k cc : Nat) (lc : List Nat) (w : World)
    (ha : Rd w (.slice a n ca) (castN la)) (hb : Rd w (.slice b m cb) (castN lb)) (hc : Rd w (.slice c k cc) (castN lc)) (wa : Wd la) (wb : Wd lb) (wc : Wd lc) (r1 : n * 8 ≤ 140737488351232) (r2 : m * 8 ≤ 140737488351232) (r3 : k * 8 ≤ 140737488351232) :
    Calls Try.prog 3 #[.slice a n ca, .slice b m cb, .slice c k cc] w fun e w' => e = .returned (.bool true) ∧ Below w.heap.size w w' := by
  have HA := Lib.hid ha
  have HB := Lib.hid hb
  have HC := Lib.hid hc
  have HWA := Lib.hid wa
  have HWB := Lib.hid wb
  have HWC := Lib.hid wc
  clear ha hb hc wa wb wc
  have s1 : IntKind.i64.wrap ((n : Int) + (m : Int)) = ((n + m : Nat) : Int) := by rw [IntKind.wrap_i64]; omega
  have s2 : IntKind.i64.wrap (((n + m : Nat) : Int) + (k : Int)) = ((n + m + k : Nat) : Int) := by rw [IntKind.wrap_i64]; omega
  obtain ⟨t, ht⟩ : ∃ t, n + m + k = t := ⟨_, rfl⟩
  obtain ⟨t0, ht0⟩ : ∃ t, n + m = t := ⟨_, rfl⟩
  rw [ht] at s2
  rw [ht0] at s1 s2
  go_enter Try.func3, Try.ntmps3
  go_wp2_with fail
  refine (alive_any w).mono ?_
  rintro e w1 ⟨rfl, hb1⟩
  have HB1 := Lib.hid hb1
  clear hb1
  by_cases h30 : t ≤ 30
  · have h30I : ¬ (30 : Int) < (t : Int) := by omega
    have hn30 : n ≤ 30 := by omega
    have hm30 : m ≤ 30 := by omega
    have hk30 : k ≤ 30 := by omega
    have H1 := Lib.hid (mul_res a n ca la b m cb lb w1 (HA.out.below HB1.out (Nat.le_refl _)) (HB.out.below HB1.out (Nat.le_refl _)) HWA.out HWB.out (by omega))
    have hT : Hid (n + m ≤ 30 ∧ n + k ≤ 30 ∧ m + k ≤ 30 ∧ n + m + k ≤ 30) := ⟨by omega, by omega, by omega, by omega⟩
    clear ht ht0
    go_wp2_with fail
    refine H1.out.mono ?_
    rintro e w2 ⟨hb2, he2⟩
    have HB2 := Lib.hid (HB1.out.trans (hb2.mono HB1.out.size))
    have H2 := Lib.hid (mul_res b m cb lb a n ca la w2 (HB.out.below HB2.out (Nat.le_refl _)) (HA.out.below HB2.out (Nat.le_refl _)) HWB.out HWA.out (by have := hT.out; omega))
    clear H1 hb2
    rcases he2 with ⟨hab, b2, k2, d2, l2, rfl, hr2, q2, v2, u2⟩ | ⟨hab, rfl⟩
    · have HR2 := Lib.hid hr2
      have HAB := Lib.hid hab
      have HQ2 := Lib.hid q2
      have HV2 := Lib.hid v2
      clear hr2 hab q2 v2
      go_wp2_with fail
      refine H2.out.mono ?_
      rintro e w3 ⟨hb3, he3⟩
      have HB3 := Lib.hid (HB2.out.trans (hb3.mono HB2.out.size))
      have HR23 := Lib.hid (HR2.out.below hb3 (Nat.le_refl _))
      have H3 := Lib.hid (add_res b m cb lb c k cc lc w3 (HB.out.below HB3.out (Nat.le_refl _)) (HC.out.below HB3.out (Nat.le_refl _)) HWB.out HWC.out (by omega) (by omega))
      clear H2 hb3 HR2
      rcases he3 with ⟨-, b3, k3, d3, l3, rfl, hr3, q3, v3, -⟩ | ⟨hx, -⟩
      · have HR3 := Lib.hid hr3
        have HL23 : Hid (l2 = l3) := val_inj HQ2.out q3 (by rw [HV2.out, v3, Nat.mul_comm])
        clear hr3 q3 v3
        go_wp2_with fail
        refine H3.out.mono ?_
        rintro e w4 ⟨hb4, he4⟩
        have HB4 := Lib.hid (HB3.out.trans (hb4.mono HB3.out.size))
        have HR24 := Lib.hid (HR23.out.below hb4 (Nat.le_refl _))
        have HR34 := Lib.hid (HR3.out.below hb4 (Nat.le_refl _))
        clear H3 hb4 HR23 HR3
        rcases he4 with ⟨hbc, b4, k4, d4, l4, rfl, hr4, q4, v4, u4⟩ | ⟨hbc, rfl⟩
        · have HR4 := Lib.hid hr4
          have HQ4 := Lib.hid q4
          have HV4 := Lib.hid v4
          have HBC := Lib.hid hbc
          clear hr4 q4 v4 hbc
          have H4 := Lib.hid (mul_ok a n ca la c k cc lc w4 _ (HA.out.below HB4.out (Nat.le_refl _)) (HC.out.below HB4.out (Nat.le_refl _)) HAB.out.1 HBC.out.2 (by have := hT.out; omega) rfl)
          go_wp2_with fail
          refine H4.out.mono ?_
          rintro e w5 ⟨hb5, b5, k5, d5, l5, rfl, hr5, q5, v5, u5⟩
          have HB5 := Lib.hid (HB4.out.trans (hb5.mono HB4.out.size))
          have HR25 := Lib.hid (HR24.out.below hb5 (Nat.le_refl _))
          have HR35 := Lib.hid (HR34.out.below hb5 (Nat.le_refl _))
          have HR45 := Lib.hid (HR4.out.below hb5 (Nat.le_refl _))
          have HR5 := Lib.hid hr5
          have HQ5 := Lib.hid q5
          have HV5 := Lib.hid v5
          clear H4 hb5 hr5 q5 v5 HR24 HR34 HR4
          have H5 := Lib.hid (mul_ok a n ca la b4 k4 d4 l4 w5 _ (HA.out.below HB5.out (Nat.le_refl _)) HR45.out HAB.out.1 HQ4.out (by have := hT.out; omega) rfl)
          go_wp2_with fail
          refine H5.out.mono ?_
          rintro e w6 ⟨hb6, b6, k6, d6, l6, rfl, hr6, q6, v6, -⟩
          have HB6 := Lib.hid (HB5.out.trans (hb6.mono HB5.out.size))
          have HR26 := Lib.hid (HR25.out.below hb6 (Nat.le_refl _))
          have HR36 := Lib.hid (HR35.out.below hb6 (Nat.le_refl _))
          have HR56 := Lib.hid (HR5.out.below hb6 (Nat.le_refl _))
          have HR6 := Lib.hid hr6
          have HQ6 := Lib.hid q6
          have HV6 := Lib.hid v6
          clear H5 hb6 hr6 q6 v6 HR25 HR35 HR5
          have H6 := Lib.hid (add_ok b2 k2 d2 l2 b5 k5 d5 l5 w6 _ HR26.out HR56.out HQ2.out HQ5.out (by have := hT.out; omega) (by have := hT.out; omega) rfl)
          go_wp2_with fail
          refine H6.out.mono ?_
          rintro e w7 ⟨hb7, b7, k7, d7, l7, rfl, hr7, q7, v7, -⟩
          have HB7 := Lib.hid (HB6.out.trans (hb7.mono HB6.out.size))
          have HE1 : Hid (Calls Try.prog 10 #[.slice b2 k2 d2, .slice b3 k3 d3] w7 fun e w' => e = .returned (.bool true) ∧ Below w7.heap.size w7 w') := (equal_any _ _ _ _ w7 (HR26.out.below hb7 (Nat.le_refl _)) (HR36.out.below hb7 (Nat.le_refl _))).mono fun e w' ⟨h1, h2⟩ => ⟨by rw [h1, HL23.out]; simp, h2⟩
          have HL67 : Hid (l6 = l7) := val_inj HQ6.out q7 (dist HV2.out HV4.out HV5.out HV6.out v7)
          have HR67 := Lib.hid (HR6.out.below hb7 (Nat.le_refl _))
          have HR7 := Lib.hid hr7
          clear H6 hb7 hr7 q7 v7 HR26 HR36 HR56 HR6
          go_wp2_with fail
          refine HE1.out.mono ?_
          rintro e w8 ⟨rfl, hb8⟩
          have HB8 := Lib.hid (HB7.out.trans (hb8.mono HB7.out.size))
          have HE2 : Hid (Calls Try.prog 10 #[.slice b6 k6 d6, .slice b7 k7 d7] w8 fun e w' => e = .returned (.bool true) ∧ Below w8.heap.size w8 w') := (equal_any _ _ _ _ w8 (HR67.out.below hb8 (Nat.le_refl _)) (HR7.out.below hb8 (Nat.le_refl _))).mono fun e w' ⟨h1, h2⟩ => ⟨by rw [h1, HL67.out]; simp, h2⟩
          clear HE1 hb8
          go_wp2_with fail
          refine HE2.out.mono ?_
          rintro e w9 ⟨rfl, hb9⟩
          have HB9 := Lib.hid (HB8.out.trans (hb9.mono HB8.out.size))
          clear HE2 hb9
          go_wp2_with fail
          go_ret
          exact ⟨rfl, HB9.out⟩
        · go_wp2_with fail
          go_ret
          exact ⟨rfl, HB4.out⟩
      · exact absurd ⟨HAB.out.2, HAB.out.1⟩ hx
    · have HAB := Lib.hid hab
      clear hab
      go_wp2_with fail
      refine H2.out.mono ?_
      rintro e w3 ⟨hb3, he3⟩
      have HB3 := Lib.hid (HB2.out.trans (hb3.mono HB2.out.size))
      have H3 := Lib.hid (add_some b m cb lb c k cc lc w3 (HB.out.below HB3.out (Nat.le_refl _)) (HC.out.below HB3.out (Nat.le_refl _)) HWB.out HWC.out)
      clear H2 hb3
      rcases he3 with ⟨hx, -⟩ | ⟨-, rfl⟩
      · exact absurd ⟨hx.2, hx.1⟩ HAB.out
      · go_wp2_with fail
        refine H3.out.mono ?_
        rintro e w4 ⟨hb4, v4, er, rfl⟩
        have HB4 := Lib.hid (HB3.out.trans (hb4.mono HB3.out.size))
        clear H3 hb4
        go_wp2_with fail
        go_ret
        exact ⟨rfl, HB4.out⟩
  · have h30I : (30 : Int) < (t : Int) := by omega
    clear ht ht0
    go_wp2_with fail
    go_ret
    exact ⟨rfl, HB1.out⟩
theorem walk (a1 : Option Addr) (len1 cap1 : Nat) (z1 : List Int) (a2 : Option Addr) (len2 cap2 : Nat) (z2 : List Int) (a3 : Option Addr) (len3 cap3 : Nat) (z3 : List Int) (w : World)
    (w1 : IsRow .u64 w a1 len1 cap1 z1) (r1 : len1 * 8 ≤ 140737488351232) (w2 : IsRow .u64 w a2 len2 cap2 z2) (r2 : len2 * 8 ≤ 140737488351232) (w3 : IsRow .u64 w a3 len3 cap3 z3) (r3 : len3 * 8 ≤ 140737488351232) :
    Calls Try.prog 3 #[.slice a1 len1 cap1, .slice a2 len2 cap2, .slice a3 len3 cap3] w fun e w' => e = .returned (.bool true) ∧ Below w.heap.size w w' := by
  obtain ⟨h1, g1⟩ := w1.rd
  obtain ⟨h2, g2⟩ := w2.rd
  obtain ⟨h3, g3⟩ := w3.rd
  obtain ⟨la, e1, k1⟩ := nats_of _ g1
  obtain ⟨lb, e2, k2⟩ := nats_of _ g2
  obtain ⟨lc, e3, k3⟩ := nats_of _ g3
  rw [e1] at h1
  rw [e2] at h2
  rw [e3] at h3
  exact run _ _ _ la _ _ _ lb _ _ _ lc w h1 h2 h3 k1 k2 k3 r1 r2 r3
end Go.Proofs.Ytkaejoejaohpcaa.natField
