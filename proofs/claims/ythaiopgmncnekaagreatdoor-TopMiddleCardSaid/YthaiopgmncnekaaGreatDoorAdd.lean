/- pool.Add: what it answers. No condition. -/
import Derived.Test.YthaiopgmncnekaaGreatDoorRight
set_option linter.unusedSimpArgs false
set_option linter.unusedVariables false
set_option maxRecDepth 20000
namespace Go.Proofs.YthaiopgmncnekaaGreatDoor
open Go.RowKit
/-- What is wrong with one more. -/
def addE (c d : Int) : Int := if c = 1099511627776 then 4 else if d < 0 ∨ c < d then 2 else 0
/-- Who is kept with one more. -/
def addL (r : Int) (zs : List Int) (x d : Int) : List Int := if (zs.length : Int) < r then zs ++ [x] else if d < r then zs.set d.toNat x else zs
set_option maxHeartbeats 800000 in
set_option maxRecDepth 20000 in
theorem add_bad (r c x d : Int) (a : Option Addr) (n cap : Nat) (w : World) (hr : RightP r c n) (he : addE c d ≠ 0) : Calls Tryz.prog 21 #[.agg #[.int .i64 r, .int .i64 c, .slice a n cap], .int .i64 x, .int .i64 d] w fun e w' => e = .returned (.tuple #[.agg #[.int .i64 0, .int .i64 0, .slice none 0 0], .int .i64 (addE c d)]) ∧ Below w.heap.size w w' := by
  have HR := Lib.hid (right_any r c a n cap)
  rw [decide_eq_true hr] at HR
  obtain ⟨hr1, hr2, hr3, hr4, hr5⟩ := hr
  by_cases hc : c = 1099511627776
  · have hE : addE c d = 4 := by unfold addE; rw [if_pos hc]
    rw [hE]
    have q1 : (c == 1099511627776) = true := by rw [beq_iff_eq]; exact hc
    clear he hE hc hr4
    go_enter Tryz.func21, Tryz.ntmps21
    go_wp2_with fail
    refine (HR.out _).mono ?_
    rintro e w1 ⟨rfl, hb⟩
    have HB := Lib.hid ((((Below.refl w.heap.size w).alloc (Nat.le_refl _) (.cells #[.int .i64 r, .int .i64 c, .slice a n cap] 56)).alloc (by simp) (.cells #[.int .i64 0, .int .i64 0, .slice none 0 0] 56)).trans (hb.mono (by simp; omega)))
    have A0 : BX w1 w.heap.size r c (.slice a n cap) := BX.below (w := (w.alloc (.cells #[.int .i64 r, .int .i64 c, .slice a n cap] 56)).alloc (.cells #[.int .i64 0, .int .i64 0, .slice none 0 0] 56)) ((BX.new w r c (.slice a n cap)).below (B := w.heap.size + 1) ((Below.refl _ _).alloc (by simp) _) (by omega)) hb (by simp; omega)
    have A1 : BX w1 (w.heap.size + 1) 0 0 (.slice none 0 0) := BX.below (w := (w.alloc (.cells #[.int .i64 r, .int .i64 c, .slice a n cap] 56)).alloc (.cells #[.int .i64 0, .int .i64 0, .slice none 0 0] 56)) (by simpa using BX.new (w.alloc (.cells #[.int .i64 r, .int .i64 c, .slice a n cap] 56)) 0 0 (.slice none 0 0)) hb (by simp)
    have hsz : w.heap.size + 2 ≤ w1.heap.size := by have := hb.size; simp at this; omega
    have HA0 := Lib.hid A0
    have HA1 := Lib.hid A1
    have d0 := A0.c0
    have d1 := A0.c1
    have d2 := A0.c2
    clear hb A0 A1
    have e0 := HA1.out.c0
    have e1 := HA1.out.c1
    have e2 := HA1.out.c2
    have f0 := HA1.out.fr 0
    have f1 := HA1.out.fr 1
    have f2 := HA1.out.fr 2
    clear hr5
    go_wp2_with fail
    refine bodyPost_ret (ret_pool rfl _ _ (w.heap.size + 1) rfl (((HA1.out.set0 0).set1 0).set2 (.slice none 0 0)) ⟨_, _, _, rfl⟩) rfl ?_
    exact ⟨rfl, ((HB.out.setCell (by show _ ≤ w.heap.size + 1; omega) _).setCell (by show _ ≤ w.heap.size + 1; omega) _).setCell (by show _ ≤ w.heap.size + 1; omega) _⟩
  · have hE2 : d < 0 ∨ c < d := by
      unfold addE at he
      rw [if_neg hc] at he
      rcases Decidable.em (d < 0 ∨ c < d) with h | h
      · exact h
      · rw [if_neg h] at he; exact absurd rfl he
    have hE : addE c d = 2 := by unfold addE; rw [if_neg hc, if_pos hE2]
    rw [hE]
    have q1 : (c == 1099511627776) = false := by rw [beq_eq_false_iff_ne]; exact hc
    clear he hE
    by_cases k1 : d < 0
    · have q2 : decide (d < 0) = true := decide_eq_true k1
      go_enter Tryz.func21, Tryz.ntmps21
      go_wp2_with fail
      refine (HR.out _).mono ?_
      rintro e w1 ⟨rfl, hb⟩
      have HB := Lib.hid ((((Below.refl w.heap.size w).alloc (Nat.le_refl _) (.cells #[.int .i64 r, .int .i64 c, .slice a n cap] 56)).alloc (by simp) (.cells #[.int .i64 0, .int .i64 0, .slice none 0 0] 56)).trans (hb.mono (by simp; omega)))
      have A0 : BX w1 w.heap.size r c (.slice a n cap) := BX.below (w := (w.alloc (.cells #[.int .i64 r, .int .i64 c, .slice a n cap] 56)).alloc (.cells #[.int .i64 0, .int .i64 0, .slice none 0 0] 56)) ((BX.new w r c (.slice a n cap)).below (B := w.heap.size + 1) ((Below.refl _ _).alloc (by simp) _) (by omega)) hb (by simp; omega)
      have A1 : BX w1 (w.heap.size + 1) 0 0 (.slice none 0 0) := BX.below (w := (w.alloc (.cells #[.int .i64 r, .int .i64 c, .slice a n cap] 56)).alloc (.cells #[.int .i64 0, .int .i64 0, .slice none 0 0] 56)) (by simpa using BX.new (w.alloc (.cells #[.int .i64 r, .int .i64 c, .slice a n cap] 56)) 0 0 (.slice none 0 0)) hb (by simp)
      have hsz : w.heap.size + 2 ≤ w1.heap.size := by have := hb.size; simp at this; omega
      have HA0 := Lib.hid A0
      have HA1 := Lib.hid A1
      have d0 := A0.c0
      have d1 := A0.c1
      have d2 := A0.c2
      clear hb A0 A1
      have e0 := HA1.out.c0
      have e1 := HA1.out.c1
      have e2 := HA1.out.c2
      have f0 := HA1.out.fr 0
      have f1 := HA1.out.fr 1
      have f2 := HA1.out.fr 2
      go_wp2_with fail
      refine bodyPost_ret (ret_pool rfl _ _ (w.heap.size + 1) rfl (((HA1.out.set0 0).set1 0).set2 (.slice none 0 0)) ⟨_, _, _, rfl⟩) rfl ?_
      exact ⟨rfl, ((HB.out.setCell (by show _ ≤ w.heap.size + 1; omega) _).setCell (by show _ ≤ w.heap.size + 1; omega) _).setCell (by show _ ≤ w.heap.size + 1; omega) _⟩
    · have q2 : decide (d < 0) = false := decide_eq_false k1
      have q3 : decide (c < d) = true := decide_eq_true (by omega)
      go_enter Tryz.func21, Tryz.ntmps21
      go_wp2_with fail
      refine (HR.out _).mono ?_
      rintro e w1 ⟨rfl, hb⟩
      have HB := Lib.hid ((((Below.refl w.heap.size w).alloc (Nat.le_refl _) (.cells #[.int .i64 r, .int .i64 c, .slice a n cap] 56)).alloc (by simp) (.cells #[.int .i64 0, .int .i64 0, .slice none 0 0] 56)).trans (hb.mono (by simp; omega)))
      have A0 : BX w1 w.heap.size r c (.slice a n cap) := BX.below (w := (w.alloc (.cells #[.int .i64 r, .int .i64 c, .slice a n cap] 56)).alloc (.cells #[.int .i64 0, .int .i64 0, .slice none 0 0] 56)) ((BX.new w r c (.slice a n cap)).below (B := w.heap.size + 1) ((Below.refl _ _).alloc (by simp) _) (by omega)) hb (by simp; omega)
      have A1 : BX w1 (w.heap.size + 1) 0 0 (.slice none 0 0) := BX.below (w := (w.alloc (.cells #[.int .i64 r, .int .i64 c, .slice a n cap] 56)).alloc (.cells #[.int .i64 0, .int .i64 0, .slice none 0 0] 56)) (by simpa using BX.new (w.alloc (.cells #[.int .i64 r, .int .i64 c, .slice a n cap] 56)) 0 0 (.slice none 0 0)) hb (by simp)
      have hsz : w.heap.size + 2 ≤ w1.heap.size := by have := hb.size; simp at this; omega
      have HA0 := Lib.hid A0
      have HA1 := Lib.hid A1
      have d0 := A0.c0
      have d1 := A0.c1
      have d2 := A0.c2
      clear hb A0 A1
      have e0 := HA1.out.c0
      have e1 := HA1.out.c1
      have e2 := HA1.out.c2
      have f0 := HA1.out.fr 0
      have f1 := HA1.out.fr 1
      have f2 := HA1.out.fr 2
      go_wp2_with fail
      refine bodyPost_ret (ret_pool rfl _ _ (w.heap.size + 1) rfl (((HA1.out.set0 0).set1 0).set2 (.slice none 0 0)) ⟨_, _, _, rfl⟩) rfl ?_
      exact ⟨rfl, ((HB.out.setCell (by show _ ≤ w.heap.size + 1; omega) _).setCell (by show _ ≤ w.heap.size + 1; omega) _).setCell (by show _ ≤ w.heap.size + 1; omega) _⟩
set_option maxHeartbeats 1600000 in
set_option maxRecDepth 20000 in
theorem add_ok (r c x d : Int) (v : Value) (zs : List Int) (w : World) (hrd : Rd w v zs) (hr : RightP r c zs.length) (he : addE c d = 0) : Calls Tryz.prog 21 #[.agg #[.int .i64 r, .int .i64 c, v], .int .i64 x, .int .i64 d] w fun e w' => Below w.heap.size w w' ∧ ∃ v', e = .returned (.tuple #[.agg #[.int .i64 r, .int .i64 (c + 1), v'], .int .i64 0]) ∧ w'.ownsRow w.heap.size 3 1 v' (addL r zs x d).length ((addL r zs x d).map (Value.int .i64)) := by
  obtain ⟨i3, hi3, hz0, hz1, hz2⟩ := info_parts Tryz.info3
  obtain ⟨a, cap, rfl, hlc, hcm, -⟩ := hrd.open
  have HRd := Lib.hid hrd
  clear hrd
  have HR := Lib.hid (right_any r c a zs.length cap)
  rw [decide_eq_true hr] at HR
  obtain ⟨hr1, hr2, hr3, hr4, hr5⟩ := hr
  have hc : c ≠ 1099511627776 := fun h => by unfold addE at he; rw [if_pos h] at he; cases he
  have hd : ¬ (d < 0 ∨ c < d) := fun h => by unfold addE at he; rw [if_neg hc, if_pos h] at he; cases he
  have q1 : (c == 1099511627776) = false := by rw [beq_eq_false_iff_ne]; exact hc
  have q2 : decide (d < 0) = false := decide_eq_false (by omega)
  have q3 : decide (c < d) = false := decide_eq_false (by omega)
  have HLL : Hid (addL r zs x d = if (zs.length : Int) < r then zs ++ [x] else if d < r then zs.set d.toNat x else zs) := rfl
  obtain ⟨n, hn⟩ : ∃ n, zs.length = n := ⟨_, rfl⟩
  have HN := Lib.hid hn
  rw [hn] at hlc hr5 HR HLL HRd ⊢
  have HCL : Hid (∀ w, Rd w (.slice a n cap) zs → Calls Tryz.prog 32 #[.slice a n cap] w fun e w' => ∃ v', e = .returned v' ∧ w'.ownsRow w.heap.size 3 1 v' n (zs.map (Value.int .i64)) ∧ Below w.heap.size w w') := fun w h => by
    have := clone_any _ zs w h (by omega)
    rwa [hn] at this
  clear hn
  have hn4 : n ≤ 400 := by omega
  have hnr : (n : Int) ≤ r := by omega
  clear he hr5
  go_enter Tryz.func21, Tryz.ntmps21
  go_wp2_with fail
  refine (HR.out _).mono ?_
  rintro e w1 ⟨rfl, hb⟩
  have HB := Lib.hid ((((Below.refl w.heap.size w).alloc (Nat.le_refl _) (.cells #[.int .i64 r, .int .i64 c, .slice a n cap] 56)).alloc (by simp) (.cells #[.int .i64 0, .int .i64 0, .slice none 0 0] 56)).trans (hb.mono (by simp; omega)))
  have A0 : BX w1 w.heap.size r c (.slice a n cap) := BX.below (w := (w.alloc (.cells #[.int .i64 r, .int .i64 c, .slice a n cap] 56)).alloc (.cells #[.int .i64 0, .int .i64 0, .slice none 0 0] 56)) ((BX.new w r c (.slice a n cap)).below (B := w.heap.size + 1) ((Below.refl _ _).alloc (by simp) _) (by omega)) hb (by simp; omega)
  have A1 : BX w1 (w.heap.size + 1) 0 0 (.slice none 0 0) := BX.below (w := (w.alloc (.cells #[.int .i64 r, .int .i64 c, .slice a n cap] 56)).alloc (.cells #[.int .i64 0, .int .i64 0, .slice none 0 0] 56)) (by simpa using BX.new (w.alloc (.cells #[.int .i64 r, .int .i64 c, .slice a n cap] 56)) 0 0 (.slice none 0 0)) hb (by simp)
  have hsz : w.heap.size + 2 ≤ w1.heap.size := by have := hb.size; simp at this; omega
  have HA0 := Lib.hid A0
  have HA1 := Lib.hid A1
  have d0 := A0.c0
  have d1 := A0.c1
  have d2 := A0.c2
  clear hb A0 A1
  have HRW := Lib.hid (HRd.out.below HB.out (Nat.le_refl _))
  have g2 := HA0.out.fr 2
  go_wp2_with fail
  refine (HCL.out _ HRW.out).mono ?_
  rintro e w2 ⟨v2, rfl, hown, hb2⟩
  have HO2 := Lib.hid hown
  have HB2 := Lib.hid hb2
  have hs2 := hb2.size
  have hbase : w1.heap.size ≤ w2.heap.size := hs2
  obtain ⟨a2, l2, k2, hv2⟩ : ∃ a2 l2 k2, v2 = .slice a2 l2 k2 := by
    rcases hown.2 with ⟨h, _⟩ | ⟨g, k, cur, h, _⟩
    · exact ⟨_, _, _, h⟩
    · exact ⟨_, _, _, h⟩
  have hl2 : n = l2 := by
    rcases hown.2 with ⟨h, h0⟩ | ⟨g, k, cur, h, _⟩
    · rw [hv2] at h; cases h; omega
    · rw [hv2] at h; cases h; omega
  subst hv2
  subst hl2
  have HA02 := Lib.hid (HA0.out.below hb2 (by omega))
  have HA12 := Lib.hid (HA1.out.below hb2 (by omega))
  clear hown hb2 d0 d1 d2 g2
  have d0 := HA02.out.c0
  have d1 := HA02.out.c1
  have d2 := HA02.out.c2
  have g1 := HA02.out.fr 1
  have g2 := HA02.out.fr 2
  have hb0 : w.heap.size < w1.heap.size := by omega
  have hb1 : w.heap.size + 1 < w1.heap.size := by omega
  have HOW : Hid (((w2.setCell ⟨w.heap.size, 2, none⟩ (.slice a2 n k2)).setCell ⟨w.heap.size, 1, none⟩ (.int .i64 (c + 1))).ownsRow w1.heap.size 3 1 (.slice a2 n k2) n (zs.map (Value.int .i64))) := own_store (own_store HO2.out (by exact hb0) _) (by exact hb0) _
  have HAW : Hid (BX ((w2.setCell ⟨w.heap.size, 2, none⟩ (.slice a2 n k2)).setCell ⟨w.heap.size, 1, none⟩ (.int .i64 (c + 1))) w.heap.size r (c + 1) (.slice a2 n k2)) := (HA02.out.set2 _).set1 _
  have HBW : Hid (BX ((w2.setCell ⟨w.heap.size, 2, none⟩ (.slice a2 n k2)).setCell ⟨w.heap.size, 1, none⟩ (.int .i64 (c + 1))) (w.heap.size + 1) 0 0 (.slice none 0 0)) := (HA12.out.other (by simp) _).other (by simp) _
  have HWW : Hid (Below w.heap.size w ((w2.setCell ⟨w.heap.size, 2, none⟩ (.slice a2 n k2)).setCell ⟨w.heap.size, 1, none⟩ (.int .i64 (c + 1)))) := ((HB.out.trans (HB2.out.mono (by omega))).setCell (Nat.le_refl _) _).setCell (Nat.le_refl _) _
  have e0 := HA12.out.c0
  have e1 := HA12.out.c1
  have e2 := HA12.out.c2
  have f0 := HA12.out.fr 0
  have f1 := HA12.out.fr 1
  have f2 := HA12.out.fr 2
  have hwc : IntKind.i64.wrap (c + 1) = c + 1 := by rw [IntKind.wrap_i64]; omega
  by_cases kr : (n : Int) < r
  · rw [if_pos kr] at HLL
    have q4 : decide ((n : Int) < r) = true := decide_eq_true kr
    have hs9 : w1.heap.size ≤ ((w2.setCell ⟨w.heap.size, 2, none⟩ (.slice a2 n k2)).setCell ⟨w.heap.size, 1, none⟩ (.int .i64 (c + 1))).heap.size := by simp [World.setCell]; exact hs2
    have HK : Hid (n + 1 ≤ 17592186044416) := by show _ ≤ _; omega
    go_wp2_with (at_builtin; go_must (refine push rfl _ _ 22 rfl w1.heap.size 3 i3 (.int .i64 0) 8 Tryz.underlying22 hi3 hz0 hz1 hz2 rfl _ n (zs.map (Value.int .i64)) rfl HOW.out (.int .i64 x) w2.heap.size rfl (by simp [World.setCell]) rfl (by decide) HK.out hs9 ?_))
    intro v3 w3 hown3 hgr3
    have hb3 := grown_below hgr3 HOW.out (Below.refl _ _) (Nat.le_refl _) hs9
    obtain ⟨a3, l3, k3, hv3⟩ : ∃ a3 l3 k3, v3 = .slice a3 l3 k3 := by
      rcases hown3.2 with ⟨h, _⟩ | ⟨g, k, cur, h, _⟩
      · exact ⟨_, _, _, h⟩
      · exact ⟨_, _, _, h⟩
    subst hv3
    have A3 := HAW.out.below hb3 hb0
    have B3 := HBW.out.below hb3 hb1
    have HA3 := Lib.hid A3
    have HB3 := Lib.hid B3
    have HO3 := Lib.hid hown3
    have HW3 := Lib.hid (HWW.out.trans (hb3.mono (Nat.le_of_lt hb0)))
    clear d0 d1 d2 g1 g2 e0 e1 e2 f0 f1 f2 hgr3 hown3 hb3
    have d0 := A3.c0
    have d1 := A3.c1
    have d2 := A3.c2
    have g2 := A3.fr 2
    have e0 := B3.c0
    have e1 := B3.c1
    have e2 := B3.c2
    have f0 := B3.fr 0
    have f1 := B3.fr 1
    have f2 := B3.fr 2
    clear A3 B3
    go_wp2_with fail
    refine bodyPost_ret (ret_pool rfl _ _ (w.heap.size + 1) rfl ((((HB3.out.other (p := ⟨w.heap.size, 2, none⟩) (by simp) _).set0 r).set1 (c + 1)).set2 (.slice a3 l3 k3)) ⟨_, _, _, rfl⟩) rfl ?_
    refine ⟨(((HW3.out.setCell (Nat.le_refl _) _).setCell (by show _ ≤ w.heap.size + 1; omega) _).setCell (by show _ ≤ w.heap.size + 1; omega) _).setCell (by show _ ≤ w.heap.size + 1; omega) _, _, rfl, ?_⟩
    rw [HLL.out]
    rw [show (zs ++ [x]).length = n + 1 by rw [List.length_append, HN.out]; rfl]
    refine own_base (base := w1.heap.size) ?_ (by omega)
    rw [List.map_append]
    exact own_store (own_store (own_store (own_store HO3.out (by exact hb0) _) (by exact hb1) _) (by exact hb1) _) (by exact hb1) _
  · rw [if_neg kr] at HLL
    have q4 : decide ((n : Int) < r) = false := decide_eq_false kr
    by_cases kd : d < r
    · rw [if_pos kd] at HLL
      have q5 : decide (d < r) = true := decide_eq_true kd
      obtain ⟨m, rfl⟩ : ∃ m : Nat, d = m := ⟨d.toNat, by omega⟩
      have hmn : m < n := by omega
      obtain ⟨g, cg, hvg, hg1, hg2, hg3, hg4, -⟩ := own_open HO2.out (by omega : 0 < n)
      cases hvg
      have cm := own_get HO2.out m hmn
      have fm := World.ownsRow.frozenAt HO2.out m
      have hne0 : ¬ g = w.heap.size := by omega
      have hne1 : ¬ g = w.heap.size + 1 := by omega
      have hne2 : ¬ w.heap.size = g := by omega
      have hne3 : ¬ w.heap.size + 1 = g := by omega
      have hmi : (m : Int) < (n : Int) := by omega
      have HGG : Hid (w1.heap.size ≤ g) := hg3
      clear hg1 hg2 hg3 hg4
      have HOS := Lib.hid (own_set HOW.out m x)
      have hgw : w1.heap.size ≤ g := HGG.out
      go_wp2_with fail
      refine bodyPost_ret (ret_pool rfl _ _ (w.heap.size + 1) rfl ((((HBW.out.other (p := ⟨g, m, none⟩) hne1 _).set0 r).set1 (c + 1)).set2 (.slice (some ⟨g, 0, none⟩) n k2)) ⟨_, _, _, rfl⟩) rfl ?_
      refine ⟨(((HWW.out.setCell (by show _ ≤ g; omega) _).setCell (by show _ ≤ w.heap.size + 1; omega) _).setCell (by show _ ≤ w.heap.size + 1; omega) _).setCell (by show _ ≤ w.heap.size + 1; omega) _, _, rfl, ?_⟩
      rw [HLL.out, List.length_set, HN.out]
      exact own_base (own_store (own_store (own_store HOS.out (by exact hb1) _) (by exact hb1) _) (by exact hb1) _) (by omega)
    · rw [if_neg kd] at HLL
      have q5 : decide (d < r) = false := decide_eq_false kd
      go_wp2_with fail
      refine bodyPost_ret (ret_pool rfl _ _ (w.heap.size + 1) rfl (((HBW.out.set0 r).set1 (c + 1)).set2 (.slice a2 n k2)) ⟨_, _, _, rfl⟩) rfl ?_
      refine ⟨((HWW.out.setCell (by show _ ≤ w.heap.size + 1; omega) _).setCell (by show _ ≤ w.heap.size + 1; omega) _).setCell (by show _ ≤ w.heap.size + 1; omega) _, _, rfl, ?_⟩
      rw [HLL.out, HN.out]
      exact own_base (own_store (own_store (own_store HOW.out (by exact hb1) _) (by exact hb1) _) (by exact hb1) _) (by omega)
end Go.Proofs.YthaiopgmncnekaaGreatDoor
