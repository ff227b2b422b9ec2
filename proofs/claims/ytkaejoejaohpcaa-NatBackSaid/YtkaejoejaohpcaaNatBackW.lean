/- The walk of NatBack. Condition: rows within the reach. -/
import Derived.Test.YtkaejoejaohpcaaAl
import Derived.Test.YtkaejoejaohpcaaErr
import Derived.Test.YtkaejoejaohpcaaSub
set_option linter.unusedSimpArgs false
set_option linter.unusedVariables false
namespace Go.Proofs.Ytkaejoejaohpcaa.natBack
open Go.RowKit Go.Proofs.Ytkaejoejaohpcaa
def BIG : Nat := 18446744073709551616 ^ 64
/-- The sum is one of at most 64 words. -/
def Ok (la lb : List Nat) : Prop := (rightB la = true ∧ rightB lb = true) ∧ val la + val lb < BIG
def cod (la lb : List Nat) : Nat := if rightB la = true ∧ rightB lb = true then 4 else 1
theorem Ok.comm {la lb : List Nat} (h : Ok la lb) : Ok lb la := ⟨⟨h.1.2, h.1.1⟩, by rw [Nat.add_comm]; exact h.2⟩
theorem cod_comm (la lb : List Nat) : cod la lb = cod lb la := by unfold cod; simp only [and_comm]
def Res (w0 : World) (la lb : List Nat) (e : Ending) (w' : World) : Prop :=
  Below w0.heap.size w0 w' ∧ ((Ok la lb ∧ ∃ b k d l, e = .returned (.tuple #[.slice b k d, .int .i64 0]) ∧ Rd w' (.slice b k d) (castN l) ∧ rightB l = true ∧ Wd l ∧ val l = val la + val lb) ∨
    (¬ Ok la lb ∧ ∃ er : Nat, er = cod la lb ∧ er ≠ 0 ∧ e = .returned (.tuple #[.slice none 0 0, .int .i64 er])))
theorem add_res (a : Option Addr) (n c : Nat) (la : List Nat) (a2 : Option Addr) (m c2 : Nat) (lb : List Nat) (w : World) (ha : Rd w (.slice a n c) (castN la)) (hb : Rd w (.slice a2 m c2) (castN lb)) (wa : Wd la) (wb : Wd lb) :
    Calls Try.prog 9 #[.slice a n c, .slice a2 m c2] w (Res w la lb) := by
  have e1 := ha.lenEq.1
  have e2 := hb.lenEq.1
  by_cases h : rightB la = true ∧ rightB lb = true
  · obtain ⟨h1, h2⟩ := (rightB_iff wa).1 h.1
    obtain ⟨h3, h4⟩ := (rightB_iff wb).1 h.2
    refine (add_run a n c la a2 m c2 lb w ha hb h2 h4 (by omega) (by omega)).mono ?_
    rintro e w' ⟨h5, l, h6, h7, ⟨h8, v, rfl, hr⟩ | ⟨h9, rfl⟩⟩
    · obtain ⟨b, d, rfl, -, -⟩ := hr.slice
      exact ⟨h5, .inl ⟨⟨h, by rw [← h7]; exact (len_iff h6 64).1 h8⟩, b, _, d, l, rfl, hr, (rightB_iff h6.wd).2 ⟨h8, h6⟩, h6.wd, h7⟩⟩
    · refine ⟨h5, .inr ⟨fun hk => ?_, 4, by rw [cod, if_pos h], by decide, rfl⟩⟩
      have := (len_iff h6 64).2 (by rw [h7]; exact hk.2)
      omega
  · refine (add_err a n c la a2 m c2 lb w ha hb ?_).mono ?_
    · cases h1 : rightB la
      · exact .inl rfl
      · cases h2 : rightB lb
        · exact .inr rfl
        · exact absurd ⟨h1, h2⟩ h
    · rintro e w' ⟨rfl, rfl⟩
      exact ⟨Below.refl _ _, .inr ⟨fun hk => h hk.1, 1, by rw [cod, if_neg h], by decide, rfl⟩⟩
theorem add_gen (a : Option Addr) (n c : Nat) (la : List Nat) (a2 : Option Addr) (m c2 : Nat) (lb : List Nat) (w : World) (ha : Rd w (.slice a n c) (castN la)) (hb : Rd w (.slice a2 m c2) (castN lb)) (wa : Wd la) (wb : Wd lb) :
    Calls Try.prog 9 #[.slice a n c, .slice a2 m c2] w fun e w' => Below w.heap.size w w' ∧ ∃ b k d l, ∃ er : Nat, e = .returned (.tuple #[.slice b k d, .int .i64 er]) ∧ Rd w' (.slice b k d) (castN l) ∧ Wd l := by
  refine (add_res a n c la a2 m c2 lb w ha hb wa wb).mono ?_
  rintro e w' ⟨h1, ⟨-, b, k, d, l, rfl, hr, -, hw, -⟩ | ⟨-, er, -, -, rfl⟩⟩
  · exact ⟨h1, b, k, d, l, 0, rfl, hr, hw⟩
  · exact ⟨h1, none, 0, 0, [], er, rfl, Rd.nil _, fun x hx => by cases hx⟩
theorem same {l l' : List Nat} (h1 : rightB l = true) (w1 : Wd l) (h2 : rightB l' = true) (w2 : Wd l') (h : val l = val l') : l = l' :=
  val_inj ((rightB_iff w1).1 h1).2 ((rightB_iff w2).1 h2).2 h
theorem val_big {l : List Nat} (h : rightB l = true) (w : Wd l) : val l < BIG := (len_iff ((rightB_iff w).1 h).2 64).1 ((rightB_iff w).1 h).1
set_option maxHeartbeats 1600000 in
theorem run (a : Option Addr) (n ca : Nat) (la : List Nat) (b : Option Addr) (m cb : Nat) (lb : List Nat) (c : Option Addr) (k cc : Nat) (lc : List Nat) (w : World)
    (ha : Rd w (.slice a n ca) (castN la)) (hb : Rd w (.slice b m cb) (castN lb)) (hc : Rd w (.slice c k cc) (castN lc)) (wa : Wd la) (wb : Wd lb) (wc : Wd lc) (r1 : n * 8 ≤ 140737488351232) (r2 : m * 8 ≤ 140737488351232) (r3 : k * 8 ≤ 140737488351232) :
    Calls Try.prog 6 #[.slice a n ca, .slice b m cb, .slice c k cc] w fun e w' => e = .returned (.bool true) ∧ Below w.heap.size w w' := by
  have HA := Lib.hid ha
  have HB := Lib.hid hb
  have HC := Lib.hid hc
  have HWA := Lib.hid wa
  have HWB := Lib.hid wb
  have HWC := Lib.hid wc
  have HLA : Hid (la.length = n) := ha.lenEq.1
  have HLB : Hid (lb.length = m) := hb.lenEq.1
  clear ha hb hc wa wb wc
  go_enter Try.func6, Try.ntmps6
  go_wp2_with fail
  refine (alive_any w).mono ?_
  rintro e w1 ⟨rfl, hb1⟩
  have HB1 := Lib.hid hb1
  clear hb1
  have H1 := Lib.hid (add_res a n ca la b m cb lb w1 (HA.out.below HB1.out (Nat.le_refl _)) (HB.out.below HB1.out (Nat.le_refl _)) HWA.out HWB.out)
  go_wp2_with fail
  refine H1.out.mono ?_
  rintro e w2 ⟨hb2, he2⟩
  have HB2 := Lib.hid (HB1.out.trans (hb2.mono HB1.out.size))
  have H2 := Lib.hid (add_res b m cb lb a n ca la w2 (HB.out.below HB2.out (Nat.le_refl _)) (HA.out.below HB2.out (Nat.le_refl _)) HWB.out HWA.out)
  clear H1 hb2
  rcases he2 with ⟨hok, b2, k2, d2, s, rfl, hr2, q2, ws, v2⟩ | ⟨hok, er, her, hne, rfl⟩
  · have HR2 := Lib.hid hr2
    have HOK := Lib.hid hok
    have HQ2 := Lib.hid q2
    have HWS := Lib.hid ws
    have HV2 := Lib.hid v2
    clear hr2 hok q2 v2 ws
    go_wp2_with fail
    refine H2.out.mono ?_
    rintro e w3 ⟨hb3, he3⟩
    have HB3 := Lib.hid (HB2.out.trans (hb3.mono HB2.out.size))
    have HR23 := Lib.hid (HR2.out.below hb3 (Nat.le_refl _))
    clear H2 hb3 HR2
    rcases he3 with ⟨-, b3, k3, d3, t, rfl, hr3, q3, wt, v3⟩ | ⟨hx, -⟩
    · have HR3 := Lib.hid hr3
      have HST : Hid (s = t) := same HQ2.out HWS.out q3 wt (by rw [HV2.out, v3, Nat.add_comm])
      clear hr3 q3 wt v3
      have HLS : Hid (s.length = k2) := HR23.out.lenEq.1
      have H3 : Hid (Calls Try.prog 14 #[.slice b2 k2 d2, .slice b m cb] w3 fun e w' => Below w3.heap.size w3 w' ∧ ∃ b k l, e = .returned (.tuple #[.slice b k k, .int .i64 0]) ∧ Rd w' (.slice b k k) (castN l) ∧ l = la) := by
        obtain ⟨x1, x2⟩ := (rightB_iff HWS.out).1 HQ2.out
        obtain ⟨x3, x4⟩ := (rightB_iff HWB.out).1 HOK.out.1.2
        obtain ⟨x5, x6⟩ := (rightB_iff HWA.out).1 HOK.out.1.1
        have e1 := HLS.out
        have e2 := HLB.out
        have e3 := HV2.out
        refine (sub_run b2 k2 d2 s b m cb lb w3 HR23.out (HB.out.below HB3.out (Nat.le_refl _)) x2 x4 (by omega) (by omega) (by omega)).mono ?_
        rintro e w' ⟨y1, b', k', l, rfl, y2, y3, y4⟩
        exact ⟨y1, b', k', l, rfl, y2, val_inj y3 x6 (by omega)⟩
      go_wp2_with fail
      refine H3.out.mono ?_
      rintro e w4 ⟨hb4, b4, k4, l4, rfl, hr4, hl4⟩
      have HB4 := Lib.hid (HB3.out.trans (hb4.mono HB3.out.size))
      have HR24 := Lib.hid (HR23.out.below hb4 (Nat.le_refl _))
      have HR34 := Lib.hid (HR3.out.below hb4 (Nat.le_refl _))
      have HR4 := Lib.hid hr4
      have HL4 := Lib.hid hl4
      clear H3 hb4 HR23 HR3 hr4 hl4
      have H4 := Lib.hid (add_res b2 k2 d2 s c k cc lc w4 HR24.out (HC.out.below HB4.out (Nat.le_refl _)) HWS.out HWC.out)
      go_wp2_with fail
      refine H4.out.mono ?_
      rintro e w5 ⟨hb5, he5⟩
      have HB5 := Lib.hid (HB4.out.trans (hb5.mono HB4.out.size))
      have HR25 := Lib.hid (HR24.out.below hb5 (Nat.le_refl _))
      have HR35 := Lib.hid (HR34.out.below hb5 (Nat.le_refl _))
      have HR45 := Lib.hid (HR4.out.below hb5 (Nat.le_refl _))
      clear H4 hb5 HR24 HR34 HR4
      rcases he5 with ⟨hok5, b5, k5, d5, x, rfl, hr5, q5, wx, v5⟩ | ⟨-, er5, -, hne5, rfl⟩
      · have HR5 := Lib.hid hr5
        have HOK5 := Lib.hid hok5
        have HQ5 := Lib.hid q5
        have HWX := Lib.hid wx
        have HV5 := Lib.hid v5
        clear hr5 hok5 q5 v5 wx
        have H5 := Lib.hid (add_res b m cb lb c k cc lc w5 (HB.out.below HB5.out (Nat.le_refl _)) (HC.out.below HB5.out (Nat.le_refl _)) HWB.out HWC.out)
        go_wp2_with fail
        refine H5.out.mono ?_
        rintro e w6 ⟨hb6, he6⟩
        have HB6 := Lib.hid (HB5.out.trans (hb6.mono HB5.out.size))
        have HR26 := Lib.hid (HR25.out.below hb6 (Nat.le_refl _))
        have HR36 := Lib.hid (HR35.out.below hb6 (Nat.le_refl _))
        have HR46 := Lib.hid (HR45.out.below hb6 (Nat.le_refl _))
        have HR56 := Lib.hid (HR5.out.below hb6 (Nat.le_refl _))
        clear H5 hb6 HR25 HR35 HR45 HR5
        rcases he6 with ⟨hok6, b6, k6, d6, y, rfl, hr6, q6, wy, v6⟩ | ⟨-, er6, -, hne6, rfl⟩
        · have HR6 := Lib.hid hr6
          have HQ6 := Lib.hid q6
          have HWY := Lib.hid wy
          have HV6 := Lib.hid v6
          clear hr6 hok6 q6 v6 wy
          have H6 : Hid (Calls Try.prog 9 #[.slice a n ca, .slice b6 k6 d6] w6 fun e w' => Below w6.heap.size w6 w' ∧ ∃ b k d l, e = .returned (.tuple #[.slice b k d, .int .i64 0]) ∧ Rd w' (.slice b k d) (castN l) ∧ x = l) := by
            refine (add_res a n ca la b6 k6 d6 y w6 (HA.out.below HB6.out (Nat.le_refl _)) HR6.out HWA.out HWY.out).mono ?_
            have e1 := HV2.out
            have e2 := HV5.out
            have e3 := HV6.out
            have e4 := val_big HQ5.out HWX.out
            rintro e w' ⟨y1, ⟨-, b', k', d', l, rfl, y2, y3, y4, y5⟩ | ⟨y1, -⟩⟩
            · exact ⟨‹_›, b', k', d', l, rfl, y2, same HQ5.out HWX.out y3 y4 (by omega)⟩
            · exact absurd ⟨⟨HOK.out.1.1, HQ6.out⟩, by omega⟩ y1
          go_wp2_with fail
          refine H6.out.mono ?_
          rintro e w7 ⟨hb7, b7, k7, d7, z, rfl, hr7, hz⟩
          have HB7 := Lib.hid (HB6.out.trans (hb7.mono HB6.out.size))
          have HR27 := Lib.hid (HR26.out.below hb7 (Nat.le_refl _))
          have HR37 := Lib.hid (HR36.out.below hb7 (Nat.le_refl _))
          have HR47 := Lib.hid (HR46.out.below hb7 (Nat.le_refl _))
          have HR57 := Lib.hid (HR56.out.below hb7 (Nat.le_refl _))
          have HR7 := Lib.hid hr7
          have HZ := Lib.hid hz
          clear H6 hb7 HR26 HR36 HR46 HR56 hr7 hz
          have HE1 : Hid (Calls Try.prog 10 #[.slice b4 k4 k4, .slice a n ca] w7 fun e w' => e = .returned (.bool true) ∧ Below w7.heap.size w7 w') := (equal_any _ _ _ _ w7 HR47.out (HA.out.below HB7.out (Nat.le_refl _))).mono fun e w' ⟨h1, h2⟩ => ⟨by rw [h1, HL4.out]; simp, h2⟩
          go_wp2_with fail
          refine HE1.out.mono ?_
          rintro e w8 ⟨rfl, hb8⟩
          have HB8 := Lib.hid (HB7.out.trans (hb8.mono HB7.out.size))
          have HE2 : Hid (Calls Try.prog 10 #[.slice b2 k2 d2, .slice b3 k3 d3] w8 fun e w' => e = .returned (.bool true) ∧ Below w8.heap.size w8 w') := (equal_any _ _ _ _ w8 (HR27.out.below hb8 (Nat.le_refl _)) (HR37.out.below hb8 (Nat.le_refl _))).mono fun e w' ⟨h1, h2⟩ => ⟨by rw [h1, HST.out]; simp, h2⟩
          have HR28 := Lib.hid (HR27.out.below hb8 (Nat.le_refl _))
          have HR58 := Lib.hid (HR57.out.below hb8 (Nat.le_refl _))
          have HR78 := Lib.hid (HR7.out.below hb8 (Nat.le_refl _))
          clear HE1 hb8 HR27 HR57 HR7
          go_wp2_with fail
          refine HE2.out.mono ?_
          rintro e w9 ⟨rfl, hb9⟩
          have HB9 := Lib.hid (HB8.out.trans (hb9.mono HB8.out.size))
          have HE3 : Hid (Calls Try.prog 15 #[.slice b2 k2 d2] w9 fun e w' => e = .returned (.bool true) ∧ w9 = w') := (right_any b2 k2 d2 s w9 (HR28.out.below hb9 (Nat.le_refl _))).mono fun e w' ⟨h1, h2⟩ => ⟨by rw [h1, HQ2.out], h2⟩
          have HE4 : Hid (Calls Try.prog 10 #[.slice b5 k5 d5, .slice b7 k7 d7] w9 fun e w' => e = .returned (.bool true) ∧ Below w9.heap.size w9 w') := (equal_any _ _ _ _ w9 (HR58.out.below hb9 (Nat.le_refl _)) (HR78.out.below hb9 (Nat.le_refl _))).mono fun e w' ⟨h1, h2⟩ => ⟨by rw [h1, HZ.out]; simp, h2⟩
          clear HE2 hb9
          go_wp2_with fail
          refine HE3.out.mono ?_
          rintro e w10 ⟨rfl, rfl⟩
          go_wp2_with fail
          refine HE4.out.mono ?_
          rintro e w11 ⟨rfl, hb11⟩
          have HB11 := Lib.hid (HB9.out.trans (hb11.mono HB9.out.size))
          clear hb11
          go_wp2_with fail
          go_ret
          exact ⟨rfl, HB11.out⟩
        · have hn6 : ((er6 : Int) != 0) = true := by rw [bne_iff_ne]; omega
          have H6 := Lib.hid (add_gen a n ca la none 0 0 [] w6 (HA.out.below HB6.out (Nat.le_refl _)) (Rd.nil _) HWA.out (fun x hx => by cases hx))
          clear hne6
          go_wp2_with fail
          refine H6.out.mono ?_
          rintro e w7 ⟨hb7, b7, k7, d7, z, er7, rfl, -, -⟩
          have HB7 := Lib.hid (HB6.out.trans (hb7.mono HB6.out.size))
          have HR27 := Lib.hid (HR26.out.below hb7 (Nat.le_refl _))
          have HR37 := Lib.hid (HR36.out.below hb7 (Nat.le_refl _))
          have HR47 := Lib.hid (HR46.out.below hb7 (Nat.le_refl _))
          clear H6 hb7 HR26 HR36 HR46
          have HE1 : Hid (Calls Try.prog 10 #[.slice b4 k4 k4, .slice a n ca] w7 fun e w' => e = .returned (.bool true) ∧ Below w7.heap.size w7 w') := (equal_any _ _ _ _ w7 HR47.out (HA.out.below HB7.out (Nat.le_refl _))).mono fun e w' ⟨h1, h2⟩ => ⟨by rw [h1, HL4.out]; simp, h2⟩
          go_wp2_with fail
          refine HE1.out.mono ?_
          rintro e w8 ⟨rfl, hb8⟩
          have HB8 := Lib.hid (HB7.out.trans (hb8.mono HB7.out.size))
          have HE2 : Hid (Calls Try.prog 10 #[.slice b2 k2 d2, .slice b3 k3 d3] w8 fun e w' => e = .returned (.bool true) ∧ Below w8.heap.size w8 w') := (equal_any _ _ _ _ w8 (HR27.out.below hb8 (Nat.le_refl _)) (HR37.out.below hb8 (Nat.le_refl _))).mono fun e w' ⟨h1, h2⟩ => ⟨by rw [h1, HST.out]; simp, h2⟩
          have HR28 := Lib.hid (HR27.out.below hb8 (Nat.le_refl _))
          clear HE1 hb8 HR27
          go_wp2_with fail
          refine HE2.out.mono ?_
          rintro e w9 ⟨rfl, hb9⟩
          have HB9 := Lib.hid (HB8.out.trans (hb9.mono HB8.out.size))
          have HE3 : Hid (Calls Try.prog 15 #[.slice b2 k2 d2] w9 fun e w' => e = .returned (.bool true) ∧ w9 = w') := (right_any b2 k2 d2 s w9 (HR28.out.below hb9 (Nat.le_refl _))).mono fun e w' ⟨h1, h2⟩ => ⟨by rw [h1, HQ2.out], h2⟩
          clear HE2 hb9
          go_wp2_with fail
          refine HE3.out.mono ?_
          rintro e w10 ⟨rfl, rfl⟩
          go_wp2_with fail
          go_ret
          exact ⟨rfl, HB9.out⟩
      · have hn5 : ((er5 : Int) != 0) = true := by rw [bne_iff_ne]; omega
        have H5 := Lib.hid (add_gen b m cb lb c k cc lc w5 (HB.out.below HB5.out (Nat.le_refl _)) (HC.out.below HB5.out (Nat.le_refl _)) HWB.out HWC.out)
        clear hne5
        go_wp2_with fail
        refine H5.out.mono ?_
        rintro e w6 ⟨hb6, b6, k6, d6, y, er6, rfl, hr6, hw6⟩
        have HB6 := Lib.hid (HB5.out.trans (hb6.mono HB5.out.size))
        have HR26 := Lib.hid (HR25.out.below hb6 (Nat.le_refl _))
        have HR36 := Lib.hid (HR35.out.below hb6 (Nat.le_refl _))
        have HR46 := Lib.hid (HR45.out.below hb6 (Nat.le_refl _))
        have H6 := Lib.hid (add_gen a n ca la b6 k6 d6 y w6 (HA.out.below HB6.out (Nat.le_refl _)) hr6 HWA.out hw6)
        clear H5 hb6 HR25 HR35 HR45 hr6 hw6
        go_wp2_with fail
        refine H6.out.mono ?_
        rintro e w7 ⟨hb7, b7, k7, d7, z, er7, rfl, -, -⟩
        have HB7 := Lib.hid (HB6.out.trans (hb7.mono HB6.out.size))
        have HR27 := Lib.hid (HR26.out.below hb7 (Nat.le_refl _))
        have HR37 := Lib.hid (HR36.out.below hb7 (Nat.le_refl _))
        have HR47 := Lib.hid (HR46.out.below hb7 (Nat.le_refl _))
        clear H6 hb7 HR26 HR36 HR46
        have HE1 : Hid (Calls Try.prog 10 #[.slice b4 k4 k4, .slice a n ca] w7 fun e w' => e = .returned (.bool true) ∧ Below w7.heap.size w7 w') := (equal_any _ _ _ _ w7 HR47.out (HA.out.below HB7.out (Nat.le_refl _))).mono fun e w' ⟨h1, h2⟩ => ⟨by rw [h1, HL4.out]; simp, h2⟩
        go_wp2_with fail
        refine HE1.out.mono ?_
        rintro e w8 ⟨rfl, hb8⟩
        have HB8 := Lib.hid (HB7.out.trans (hb8.mono HB7.out.size))
        have HE2 : Hid (Calls Try.prog 10 #[.slice b2 k2 d2, .slice b3 k3 d3] w8 fun e w' => e = .returned (.bool true) ∧ Below w8.heap.size w8 w') := (equal_any _ _ _ _ w8 (HR27.out.below hb8 (Nat.le_refl _)) (HR37.out.below hb8 (Nat.le_refl _))).mono fun e w' ⟨h1, h2⟩ => ⟨by rw [h1, HST.out]; simp, h2⟩
        have HR28 := Lib.hid (HR27.out.below hb8 (Nat.le_refl _))
        clear HE1 hb8 HR27
        go_wp2_with fail
        refine HE2.out.mono ?_
        rintro e w9 ⟨rfl, hb9⟩
        have HB9 := Lib.hid (HB8.out.trans (hb9.mono HB8.out.size))
        have HE3 : Hid (Calls Try.prog 15 #[.slice b2 k2 d2] w9 fun e w' => e = .returned (.bool true) ∧ w9 = w') := (right_any b2 k2 d2 s w9 (HR28.out.below hb9 (Nat.le_refl _))).mono fun e w' ⟨h1, h2⟩ => ⟨by rw [h1, HQ2.out], h2⟩
        clear HE2 hb9
        go_wp2_with fail
        refine HE3.out.mono ?_
        rintro e w10 ⟨rfl, rfl⟩
        go_wp2_with fail
        go_ret
        exact ⟨rfl, HB9.out⟩
    · exact absurd HOK.out.comm hx
  · have hn1 : ((er : Int) != 0) = true := by rw [bne_iff_ne]; omega
    have hn2 : ((er : Int) == (er : Int)) = true := by simp
    have HOK := Lib.hid hok
    rw [cod_comm] at her
    have HER := Lib.hid her
    clear hok her hne
    go_wp2_with fail
    refine H2.out.mono ?_
    rintro e w3 ⟨hb3, he3⟩
    have HB3 := Lib.hid (HB2.out.trans (hb3.mono HB2.out.size))
    clear H2 hb3
    rcases he3 with ⟨hx, -⟩ | ⟨-, er3, her3, -, rfl⟩
    · exact absurd hx.comm HOK.out
    · obtain rfl : er3 = er := by rw [her3, HER.out]
      clear her3
      go_wp2_with fail
      go_ret
      exact ⟨rfl, HB3.out⟩
theorem walk (a1 : Option Addr) (len1 cap1 : Nat) (z1 : List Int) (a2 : Option Addr) (len2 cap2 : Nat) (z2 : List Int) (a3 : Option Addr) (len3 cap3 : Nat) (z3 : List Int) (w : World)
    (w1 : IsRow .u64 w a1 len1 cap1 z1) (r1 : len1 * 8 ≤ 140737488351232) (w2 : IsRow .u64 w a2 len2 cap2 z2) (r2 : len2 * 8 ≤ 140737488351232) (w3 : IsRow .u64 w a3 len3 cap3 z3) (r3 : len3 * 8 ≤ 140737488351232) :
    Calls Try.prog 6 #[.slice a1 len1 cap1, .slice a2 len2 cap2, .slice a3 len3 cap3] w fun e w' => e = .returned (.bool true) ∧ Below w.heap.size w w' := by
  obtain ⟨h1, g1⟩ := w1.rd
  obtain ⟨h2, g2⟩ := w2.rd
  obtain ⟨h3, g3⟩ := w3.rd
  obtain ⟨la, e1, k1⟩ := nats_of _ g1
  obtain ⟨lb, e2, k2⟩ := nats_of _ g2
  obtain ⟨lc, e3, k3⟩ := nats_of _ g3
  rw [e1] at h1
  rw [e2] at h2
  rw [e3] at h3
  exact run _ _ _ la _ _ _ lb _ _ _ lc w h1 h2 h3 k1 k2 k3 r1 r2 r3
end Go.Proofs.Ytkaejoejaohpcaa.natBack
