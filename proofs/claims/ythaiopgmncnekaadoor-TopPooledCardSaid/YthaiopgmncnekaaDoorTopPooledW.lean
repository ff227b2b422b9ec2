/- The walk of TopPooled. Condition: the listed variables as they are laid. -/
import Derived.Test.YthaiopgmncnekaaDoorPooledL
import Derived.BigRegion
set_option linter.unusedSimpArgs false
set_option linter.unusedVariables false
namespace Go.Proofs.YthaiopgmncnekaaDoor
open Go.RowKit Pooled
open Tape (RdB)
theorem seed_c (x : BitVec 64) (w : World) : Calls Tryd.prog 26 #[.int .u64 (Mix.U x)] w fun e w' => e = .returned (Mix.seed x).v ∧ Below w.heap.size w w' := Mix.seed_any x w
theorem new_bad (r : Int) (h : ¬ (1 ≤ r ∧ r ≤ 400)) (w : World) : Calls Tryd.prog 10 #[.int .i64 r] w fun e w' => e = .returned (.tuple #[.agg #[.int .i64 0, .int .i64 0, .slice none 0 0], .int .i64 2]) ∧ Below w.heap.size w w' := by
  have := new_c r w; rwa [if_neg h] at this
theorem new_good (r : Int) (h : 1 ≤ r ∧ r ≤ 400) (w : World) : Calls Tryd.prog 10 #[.int .i64 r] w fun e w' => e = .returned (.tuple #[.agg #[.int .i64 r, .int .i64 0, .slice none 0 0], .int .i64 0]) ∧ Below w.heap.size w w' := by
  have := new_c r w; rwa [if_pos h] at this
set_option maxHeartbeats 3200000 in
set_option maxRecDepth 20000 in
theorem pooled_bad (r : Int) (v : Value) (zs : List Int) (x : BitVec 64) (w : World) (hT : TW w) (hv : Rd w v zs) (h : ¬ (1 ≤ r ∧ r ≤ 400)) :
    Calls Tryd.prog 6 #[.int .i64 r, v, .int .u64 (Mix.U x)] w fun e w' => e = .returned (.bool true) ∧ Below w.heap.size w w' := by
  have HA := Lib.hid (alive_any w hT)
  have HN := Lib.hid (new_bad r h)
  have HSD := Lib.hid (seed_c x)
  have HBT := Lib.hid (Mix.bits_any (Mix.seed x))
  obtain ⟨a, cap, rfl, h1, h2, -⟩ := hv.open
  generalize zs.length = n at *
  generalize (Mix.seed x).v = sv at *
  generalize Mix.U x = sx at *
  clear hT hv h
  go_enter Tryd.func6, Tryd.ntmps6
  go_wp2_with fail
  refine HA.out.mono ?_
  rintro e w1 ⟨rfl, hb1⟩
  have HB1 := Lib.hid hb1
  clear hb1 HA
  go_wp2_with fail
  refine (HN.out _).mono ?_
  rintro e w2 ⟨rfl, hb2⟩
  have HB2 := Lib.hid (HB1.out.trans (hb2.mono HB1.out.size))
  clear hb2
  go_wp2_with fail
  refine (HSD.out _).mono ?_
  rintro e w3 ⟨rfl, hb3⟩
  have HB3 := Lib.hid ((HB2.out.alloc HB2.out.size _).trans (hb3.mono (by have := HB2.out.size; simp; omega)))
  clear hb3
  go_wp2_with fail
  refine (HBT.out _).mono ?_
  rintro e w4 ⟨tv, a', b', c', d', bs, rfl, hbl, hrb, hb4⟩
  have HB4 := Lib.hid (HB3.out.trans (hb4.mono HB3.out.size))
  clear hb4 hrb
  go_wp2_with fail
  go_ret
  exact ⟨rfl, HB4.out.alloc HB4.out.size _⟩
set_option maxHeartbeats 3200000 in
set_option maxRecDepth 20000 in
theorem pooled_many (r : Int) (v : Value) (zs : List Int) (x : BitVec 64) (w : World) (hT : TW w) (hv : Rd w v zs) (h : 1 ≤ r ∧ r ≤ 400) (hl : 60 < zs.length) :
    Calls Tryd.prog 6 #[.int .i64 r, v, .int .u64 (Mix.U x)] w fun e w' => e = .returned (.bool true) ∧ Below w.heap.size w w' := by
  have HA := Lib.hid (alive_any w hT)
  have HN := Lib.hid (new_good r h)
  have HSD := Lib.hid (seed_c x)
  have HBT := Lib.hid (Mix.bits_any (Mix.seed x))
  obtain ⟨a, cap, rfl, h1, h2, -⟩ := hv.open
  generalize zs.length = n at *
  generalize (Mix.seed x).v = sv at *
  generalize Mix.U x = sx at *
  have q1 : decide ((60 : Int) < (n : Int)) = true := decide_eq_true (by omega)
  have q2 : decide (60 < n) = true := decide_eq_true hl
  clear hT hv h
  go_enter Tryd.func6, Tryd.ntmps6
  go_wp2_with fail
  refine HA.out.mono ?_
  rintro e w1 ⟨rfl, hb1⟩
  have HB1 := Lib.hid hb1
  clear hb1 HA
  go_wp2_with fail
  refine (HN.out _).mono ?_
  rintro e w2 ⟨rfl, hb2⟩
  have HB2 := Lib.hid (HB1.out.trans (hb2.mono HB1.out.size))
  clear hb2
  go_wp2_with fail
  refine (HSD.out _).mono ?_
  rintro e w3 ⟨rfl, hb3⟩
  have HB3 := Lib.hid ((HB2.out.alloc HB2.out.size _).trans (hb3.mono (by have := HB2.out.size; simp; omega)))
  clear hb3
  go_wp2_with fail
  refine (HBT.out _).mono ?_
  rintro e w4 ⟨tv, a', b', c', d', bs, rfl, hbl, hrb, hb4⟩
  have HB4 := Lib.hid (HB3.out.trans (hb4.mono HB3.out.size))
  clear hb4 hrb
  go_wp2_with fail
  go_ret
  exact ⟨by simp, HB4.out.alloc HB4.out.size _⟩
set_option maxHeartbeats 6400000 in
set_option maxRecDepth 20000 in
theorem pooled_ok (r : Int) (v : Value) (zs : List Int) (x : BitVec 64) (w : World) (hT : TW w) (hv : Rd w v zs) (h : 1 ≤ r ∧ r ≤ 400) (hl : zs.length ≤ 60) :
    Calls Tryd.prog 6 #[.int .i64 r, v, .int .u64 (Mix.U x)] w fun e w' => e = .returned (.bool true) ∧ Below w.heap.size w w' := by
  have HTT := Lib.hid hT
  have HA := Lib.hid (alive_any w hT)
  have HN := Lib.hid (new_good r h)
  have HSD := Lib.hid (seed_c x)
  have HBT := Lib.hid (Mix.bits_any (Mix.seed x))
  have HV := Lib.hid hv
  have HRR := Lib.hid h
  obtain ⟨i36, hi36, hz0, hz1, hz2⟩ := info_parts Tryd.info36
  obtain ⟨a, cap, rfl, h1, h2, -⟩ := hv.open
  obtain ⟨n, hn⟩ : ∃ n, zs.length = n := ⟨_, rfl⟩
  have HNN := Lib.hid hn
  rw [hn] at HV h1 hl ⊢
  generalize (Mix.seed x).v = sv at *
  generalize Mix.U x = sx at *
  have q1 : decide ((60 : Int) < (n : Int)) = false := decide_eq_false (by omega)
  have q2 : decide (60 < n) = false := decide_eq_false (by omega)
  clear hT hv h hn
  go_enter Tryd.func6, Tryd.ntmps6
  go_wp2_with fail
  refine HA.out.mono ?_
  rintro e w1 ⟨rfl, hb1⟩
  have HB1 := Lib.hid hb1
  clear hb1 HA
  go_wp2_with fail
  refine (HN.out _).mono ?_
  rintro e w2 ⟨rfl, hb2⟩
  have HB2 := Lib.hid (HB1.out.trans (hb2.mono HB1.out.size))
  clear hb2 HB1
  go_wp2_with fail
  refine (HSD.out _).mono ?_
  rintro e w3 ⟨rfl, hb3⟩
  have HB3 := Lib.hid (((Below.refl w2.heap.size w2).alloc (Nat.le_refl _) (.cells #[.int .i64 r, .int .i64 0, .slice none 0 0] 32)).trans (hb3.mono (by simp)))
  have HX3 : Hid (BX w3 w2.heap.size r 0 (.slice none 0 0)) := (BX.new w2 r 0 _).below hb3 (by simp)
  have hs3 : w2.heap.size + 1 ≤ w3.heap.size := by have := hb3.size; simpa using this
  clear hb3
  go_wp2_with fail
  refine (HBT.out _).mono ?_
  rintro e w4 ⟨tv, a', b', c', d', bs, rfl, hbl, hrb, hb4⟩
  have HB4 := Lib.hid ((HB3.out.trans (hb4.mono HB3.out.size)).alloc (by have := hb4.size; omega) (.cells #[.int .u64 a', .int .u64 b', .int .u64 c', .int .u64 d'] 59))
  have HX4 := Lib.hid ((HX3.out.below hb4 (by omega)).below ((Below.refl w4.heap.size w4).alloc (Nat.le_refl _) (.cells #[.int .u64 a', .int .u64 b', .int .u64 c', .int .u64 d'] 59)) (by have := hb4.size; omega))
  have HTP4 := Lib.hid (hrb.alloc (.cells #[.int .u64 a', .int .u64 b', .int .u64 c', .int .u64 d'] 59))
  have hs4 : w2.heap.size + 1 ≤ (w4.alloc (.cells #[.int .u64 a', .int .u64 b', .int .u64 c', .int .u64 d'] 59)).heap.size := by have := hb4.size; simp; omega
  obtain ⟨wL, hwL⟩ : ∃ wL, w4.alloc (.cells #[.int .u64 a', .int .u64 b', .int .u64 c', .int .u64 d'] 59) = wL := ⟨_, rfl⟩
  clear hb4 hrb HX3 HB3 HN HSD HBT
  rw [hwL] at HB4 HX4 HTP4 hs4
  go_wp2_with fail
  clear hwL
  go_loopw [62, 9, 12] (fun iv tv cv wr => ∃ (k : Nat) (cl : List (Nat × Nat)) (ys : List Int) (ts : List Bool) (hv : Value), k ≤ n ∧ iv = .int .i64 k ∧ Hid (cl.length = k) ∧ Hid (fitsL cl) ∧ Hid (runT r (0, []) cl = ((k : Int), ys)) ∧ Hid (OkS r ((k : Int), ys)) ∧ Hid (RdB wL tv ts) ∧ Hid (Below w2.heap.size w2 wr) ∧ Hid (KP w2.heap.size wL wr) ∧ Hid (BX wr w2.heap.size r k hv) ∧ Hid (wr.ownsRow wL.heap.size 3 1 hv ys.length (ys.map (Value.int .i64))) ∧ Hid (wr.ownsRow wL.heap.size 36 2 cv k (comeC cl))) (fun iv _ _ _ => n - (intOf iv).toNat)
  case atStart =>
    exact ⟨0, [], [], bs, .slice none 0 0, Nat.zero_le _, rfl, rfl, (fun p hp => by cases hp), rfl, OkS.new HRR.out, HTP4.out, HB4.out, KP.refl _ _, HX4.out, World.ownsRow_nil _ _ _ _, World.ownsRow_nil _ _ _ _⟩
  case round =>
    obtain ⟨k, cl, ys, ts, hv, hk, rfl, HCL, HFT, HRUN, HOK, HTP, HB, HK, HX, HZ, HCV⟩ := hrel
    by_cases hlt : k < n
    · have hlt2 : (k : Int) < (n : Int) := by omega
      have HV2 := Lib.hid (HV.out.below (HB2.out) (Nat.le_refl _))
      obtain ⟨a', cap', he, -, -, hop⟩ := HV2.out.open
      injection he with he1 he2 he3
      subst he1
      obtain ⟨b0, off, rfl, hb0, hc⟩ := hop k (by rw [HNN.out]; exact hlt)
      have hcx := hc k (by rw [HNN.out]; exact hlt)
      have cx : wr.cell? ⟨b0, off + k, none⟩ = some (.int .i64 (zs.getD k 0)) := (World.cell?_of_block (HB.out.block b0 hb0)).trans hcx
      obtain ⟨z, hz⟩ : ∃ z, zs.getD k 0 = z := ⟨_, rfl⟩
      rw [hz] at cx
      clear hop hc hcx hz HV2 he2 he3 hb0
      by_cases hz0' : z < 0
      · have t1 : decide (z < 0) = true := decide_eq_true hz0'
        go_wp2_with fail
        go_ret
        exact ⟨rfl, HB2.out.trans (HB.out.mono HB2.out.size)⟩
      · have t1 : decide (z < 0) = false := decide_eq_false hz0'
        by_cases hz40 : 1099511627776 < z
        · have t2 : decide (1099511627776 < z) = true := decide_eq_true hz40
          go_wp2_with fail
          go_ret
          exact ⟨rfl, HB2.out.trans (HB.out.mono HB2.out.size)⟩
        · have t2 : decide (1099511627776 < z) = false := decide_eq_false hz40
          obtain ⟨a2, k2, rfl⟩ := own_form HZ.out
          have d0 := HX.out.c0
          have d1 := HX.out.c1
          have d2 := HX.out.c2
          have HND := Lib.hid (fun w => need_c r k a2 ys.length k2 w HOK.out.1)
          obtain ⟨m, hm⟩ : ∃ m, ys.length = m := ⟨_, rfl⟩
          have HM := Lib.hid hm
          rw [hm] at HND d2 HX HZ
          obtain ⟨ta, tcap, rfl, ht1, ht2, -⟩ := HTP.out.open
          obtain ⟨tn, htn⟩ : ∃ tn, ts.length = tn := ⟨_, rfl⟩
          have HTN := Lib.hid htn
          rw [htn] at HTP ht1
          rw [htn]
          clear hm htn
          go_wp2_with fail
          refine (HND.out _).mono ?_
          rintro e w5 ⟨rfl, hb5⟩
          have hLs := HK.out.1
          have HB5 := Lib.hid (HB.out.trans (hb5.mono HB.out.size))
          have HX5 := Lib.hid (HX.out.below hb5 (by omega))
          have HZ5 := Lib.hid (own_below HZ.out hb5 (Nat.le_refl _))
          have HCV5 := Lib.hid (own_below HCV.out hb5 (Nat.le_refl _))
          have HK5 := Lib.hid (HK.out.below hb5 hLs)
          have HL5 : Hid (wL.heap.size ≤ w5.heap.size) := HK5.out.1
          have HBL : Hid (Calls Tryd.prog 28 #[.slice ta tn tcap, .int .i64 ((k : Int) + 1)] w5 fun e w' => (e = .returned (.tuple #[.int .i64 0, .int .i64 0, .int .i64 7]) ∨ ∃ x u : Nat, x < k + 1 ∧ u ≤ ts.length ∧ e = .returned (.tuple #[.int .i64 x, .int .i64 u, .int .i64 0])) ∧ w' = w5) := by
            have := below_c (.slice ta tn tcap) ts (k + 1) (by omega) (by omega) w5 (Pooled.RdB.kp HTP.out HX4.out ⟨_, _, _, rfl⟩ HK5.out)
            rwa [show ((k + 1 : Nat) : Int) = (k : Int) + 1 by omega] at this
          clear hb5 d0 d1 d2 cx hLs HND HB HX HZ HCV HK
          go_wp2_with fail
          refine HBL.out.mono ?_
          rintro e w6 ⟨rfl | ⟨d, u, hd, hu, rfl⟩, rfl⟩
          · go_wp2_with fail
            go_ret
            exact ⟨rfl, HB2.out.trans (HB5.out.mono HB2.out.size)⟩
          · have d0 := HX5.out.c0
            have d1 := HX5.out.c1
            have d2 := HX5.out.c2
            have HSO := Lib.hid (step_ok (r := r) (k := k) (ys := ys) z.toNat d (by omega) hd)
            have HAD := Lib.hid (add_ok r k z d _ ys w6 (Rd.own HZ5.out) HOK.out.1 HSO.out.2)
            have HOK2 := Lib.hid (HOK.out.step (p := (z.toNat, d)) (by show z.toNat ≤ 1099511627776; omega))
            rw [HSO.out.1] at HOK2
            have hzz : ((z.toNat : Nat) : Int) = z := by omega
            have HZZ := Lib.hid hzz
            rw [hzz] at HOK2
            clear hzz
            rw [HTN.out] at hu
            obtain ⟨ys2, hys2⟩ : ∃ ys2, addL r ys z d = ys2 := ⟨_, rfl⟩
            have HYS := Lib.hid hys2
            rw [hys2] at HAD HOK2
            clear hys2 HBL
            go_wp2_with fail
            refine HAD.out.mono ?_
            rintro e w7 ⟨hb7, v', rfl, hv'⟩
            obtain ⟨a3, k3, rfl⟩ := own_form hv'
            obtain ⟨m3, hm3⟩ : ∃ m3, ys2.length = m3 := ⟨_, rfl⟩
            have HM3 := Lib.hid hm3
            rw [hm3] at hv' ⊢
            have hb8 := hb7.alloc hb7.size (.cells #[.int .i64 r, .int .i64 ((k : Int) + 1), .slice a3 m3 k3] 32)
            have hL6 := HL5.out
            have hs7 := hb7.size
            have HB8 := Lib.hid (HB5.out.trans (hb8.mono HB5.out.size))
            have HX8 := Lib.hid (HX5.out.below hb8 (by omega))
            have HZ8 := Lib.hid ((own_base hv' hL6).alloc (.cells #[.int .i64 r, .int .i64 ((k : Int) + 1), .slice a3 m3 k3] 32))
            have HCV8 := Lib.hid (own_below HCV5.out hb8 (Nat.le_refl _))
            have HK8 := Lib.hid (HK5.out.below hb8 hL6)
            have HN8 : Hid (BX (w7.alloc (.cells #[.int .i64 r, .int .i64 ((k : Int) + 1), .slice a3 m3 k3] 32)) w7.heap.size r (k + 1) (.slice a3 m3 k3)) := BX.new w7 r (k + 1) _
            clear hb7 hb8 hv' hm3 d0 d1 d2 HB5 HX5 HZ5 HCV5 HK5 HL5 HAD
            obtain ⟨w8, hw8⟩ : ∃ w8, w7.alloc (.cells #[.int .i64 r, .int .i64 ((k : Int) + 1), .slice a3 m3 k3] 32) = w8 := ⟨_, rfl⟩
            rw [hw8] at HB8 HX8 HZ8 HCV8 HK8 HN8
            go_wp2_with fail
            clear hw8
            have d0 := HN8.out.c0
            have d1 := HN8.out.c1
            have d2 := HN8.out.c2
            have f0 := HX8.out.fr 0
            have f1 := HX8.out.fr 1
            have f2 := HX8.out.fr 2
            have g0 := HX8.out.c0
            have g1 := HX8.out.c1
            have g2 := HX8.out.c2
            have u1 : (0 ≤ (u : Int) ∧ (u : Int) ≤ (tn : Int)) = True := eq_true ⟨by omega, by omega⟩
            have u2 : ((u : Int) ≤ (tn : Int)) = True := eq_true (by omega)
            have u3 : (u ≤ tn) = True := eq_true hu
            have u4 : ((tn : Int) ≤ (tcap : Int)) = True := eq_true (by omega)
            have u5 : (tn ≤ tcap) = True := eq_true ht1
            by_cases hcu : tcap = u
            · have HTD : Hid (RdB wL (.slice ta 0 0) (ts.drop u)) := (Pooled.RdB.drop HTP.out hu).2 hcu
              have u6' : (tcap = u) = True := eq_true hcu
              have u7' : (tcap - u = 0) = True := eq_true (by omega)
              have u8' : tn - u = 0 := by omega
              subst hcu
              go_region
              have HX9 : Hid (BX ((((w8.setCell ⟨w2.heap.size, 0, none⟩ (.int .i64 r)).setCell ⟨w2.heap.size, 1, none⟩ (.int .i64 ((k : Int) + 1))).setCell ⟨w2.heap.size, 2, none⟩ (.slice a3 m3 k3)).drew) w2.heap.size r (k + 1) (.slice a3 m3 k3)) := ((HX8.out.set0 r).set1 (k + 1)).set2 _
              have HZ9 : Hid (World.ownsRow ((((w8.setCell ⟨w2.heap.size, 0, none⟩ (.int .i64 r)).setCell ⟨w2.heap.size, 1, none⟩ (.int .i64 ((k : Int) + 1))).setCell ⟨w2.heap.size, 2, none⟩ (.slice a3 m3 k3)).drew) wL.heap.size 3 1 (.slice a3 m3 k3) m3 (ys2.map (Value.int .i64))) := own_drew (own_store (own_store (own_store HZ8.out (by show w2.heap.size < _; omega) _) (by show w2.heap.size < _; omega) _) (by show w2.heap.size < _; omega) _)
              have HCV9 : Hid (World.ownsRow ((((w8.setCell ⟨w2.heap.size, 0, none⟩ (.int .i64 r)).setCell ⟨w2.heap.size, 1, none⟩ (.int .i64 ((k : Int) + 1))).setCell ⟨w2.heap.size, 2, none⟩ (.slice a3 m3 k3)).drew) wL.heap.size 36 2 u12 k (comeC cl)) := own_drew (own_store (own_store (own_store HCV8.out (by show w2.heap.size < _; omega) _) (by show w2.heap.size < _; omega) _) (by show w2.heap.size < _; omega) _)
              have HB9 : Hid (Below w2.heap.size w2 ((((w8.setCell ⟨w2.heap.size, 0, none⟩ (.int .i64 r)).setCell ⟨w2.heap.size, 1, none⟩ (.int .i64 ((k : Int) + 1))).setCell ⟨w2.heap.size, 2, none⟩ (.slice a3 m3 k3)).drew)) := (((HB8.out.setCell (Nat.le_refl _) _).setCell (Nat.le_refl _) _).setCell (Nat.le_refl _) _).drew
              have HK9 : Hid (KP w2.heap.size wL ((((w8.setCell ⟨w2.heap.size, 0, none⟩ (.int .i64 r)).setCell ⟨w2.heap.size, 1, none⟩ (.int .i64 ((k : Int) + 1))).setCell ⟨w2.heap.size, 2, none⟩ (.slice a3 m3 k3)).drew)) := ((HK8.out.set 0 _).set 1 _).set 2 _
              obtain ⟨w9, hw9⟩ : ∃ w9, ((((w8.setCell ⟨w2.heap.size, 0, none⟩ (.int .i64 r)).setCell ⟨w2.heap.size, 1, none⟩ (.int .i64 ((k : Int) + 1))).setCell ⟨w2.heap.size, 2, none⟩ (.slice a3 m3 k3)).drew) = w9 := ⟨_, rfl⟩
              rw [hw9] at HX9 HZ9 HCV9 HB9 HK9 ⊢
              clear hw9 d0 d1 d2 f0 f1 f2 g0 g1 g2 HB8 HX8 HZ8 HCV8 HK8 HN8 u1 u2 u3 u4 u5 u6' u7'
              have hL9 := HK9.out.1
              have hk8 : k + 1 ≤ 8000000000000 := by omega
              have HFT2 : Hid (fitsL (cl ++ [(z.toNat, d)])) := fun p hp => by
                rcases List.mem_append.1 hp with h | h
                · exact HFT.out p h
                · obtain rfl := List.mem_singleton.1 h
                  exact ⟨by show z.toNat ≤ 1099511627776; omega, by show d ≤ 1099511627776; omega⟩
              have HRUN2 : Hid (runT r (0, []) (cl ++ [(z.toNat, d)]) = (((k + 1 : Nat) : Int), ys2)) := by
                show _ = _
                rw [runT_app, HRUN.out, HSO.out.1, HZZ.out, HYS.out, Int.natCast_add]; rfl
              have HOK3 : Hid (OkS r (((k + 1 : Nat) : Int), ys2)) := by
                show OkS _ _
                rw [Int.natCast_add]; exact HOK2.out
              go_wp2_with (at_builtin; go_must (refine push2 rfl _ _ 22 rfl wL.heap.size 36 i36 (.agg #[.int .i64 0, .int .i64 0]) Tryd.underlying22 hi36 hz0 hz1 hz2 rfl _ k _ rfl HCV9.out (.int .i64 z) (.int .i64 d) w9.heap.size rfl rfl rfl rfl hk8 hL9 ?_))
              intro cv2 w10 ho10 hg10
              have HCV10 : Hid (w10.ownsRow wL.heap.size 36 2 cv2 (k + 1) (comeC (cl ++ [(z.toNat, d)]))) := by
                show World.ownsRow _ _ _ _ _ _ _
                rw [comeC_app, HZZ.out]; exact ho10
              have HZ10 := Lib.hid (own_other2 HZ9.out HCV9.out (by decide) hg10)
              have HX10 : Hid (BX w10 w2.heap.size r ((k + 1 : Nat) : Int) (.slice a3 m3 k3)) := by
                show _ = _
                rw [grown_block hg10 HCV9.out hs4 (by omega), Int.natCast_add]; exact HX9.out
              have HB10 := Lib.hid (grown_below hg10 HCV9.out HB9.out (by omega) (by omega))
              have HK10 : Hid (KP w2.heap.size wL w10) := (HK9.out.below ((Below.refl w9.heap.size w9).alloc (Nat.le_refl _) _) hL9).grown hg10 (fun g hg => (HCV9.out.lt g hg).1)
              clear ho10 hg10 HX9 HZ9 HCV9 HB9 HK9
              go_wp2_with fail
              go_roundw
              case rel => exact ⟨k + 1, cl ++ [(z.toNat, d)], ys2, _, .slice a3 m3 k3, by omega, by go_num, by show _ = _; rw [List.length_append, HCL.out]; rfl, HFT2.out, HRUN2.out, HOK3.out, HTD.out, HB10.out, HK10.out, HX10.out, by show World.ownsRow _ _ _ _ _ _ _; rw [HM3.out]; exact HZ10.out, HCV10.out⟩
              case measure => simp [intOf]; omega
            · have HTD : Hid (RdB wL (.slice (Option.map (fun x => x.add u) ta) (tn - u) (tcap - u)) (ts.drop u)) := (Pooled.RdB.drop HTP.out hu).1 hcu
              have u6' : (tcap = u) = False := eq_false hcu
              have u7' : (tcap - u = 0) = False := eq_false (by omega)
              go_region
              have HX9 : Hid (BX ((((w8.setCell ⟨w2.heap.size, 0, none⟩ (.int .i64 r)).setCell ⟨w2.heap.size, 1, none⟩ (.int .i64 ((k : Int) + 1))).setCell ⟨w2.heap.size, 2, none⟩ (.slice a3 m3 k3)).drew) w2.heap.size r (k + 1) (.slice a3 m3 k3)) := ((HX8.out.set0 r).set1 (k + 1)).set2 _
              have HZ9 : Hid (World.ownsRow ((((w8.setCell ⟨w2.heap.size, 0, none⟩ (.int .i64 r)).setCell ⟨w2.heap.size, 1, none⟩ (.int .i64 ((k : Int) + 1))).setCell ⟨w2.heap.size, 2, none⟩ (.slice a3 m3 k3)).drew) wL.heap.size 3 1 (.slice a3 m3 k3) m3 (ys2.map (Value.int .i64))) := own_drew (own_store (own_store (own_store HZ8.out (by show w2.heap.size < _; omega) _) (by show w2.heap.size < _; omega) _) (by show w2.heap.size < _; omega) _)
              have HCV9 : Hid (World.ownsRow ((((w8.setCell ⟨w2.heap.size, 0, none⟩ (.int .i64 r)).setCell ⟨w2.heap.size, 1, none⟩ (.int .i64 ((k : Int) + 1))).setCell ⟨w2.heap.size, 2, none⟩ (.slice a3 m3 k3)).drew) wL.heap.size 36 2 u12 k (comeC cl)) := own_drew (own_store (own_store (own_store HCV8.out (by show w2.heap.size < _; omega) _) (by show w2.heap.size < _; omega) _) (by show w2.heap.size < _; omega) _)
              have HB9 : Hid (Below w2.heap.size w2 ((((w8.setCell ⟨w2.heap.size, 0, none⟩ (.int .i64 r)).setCell ⟨w2.heap.size, 1, none⟩ (.int .i64 ((k : Int) + 1))).setCell ⟨w2.heap.size, 2, none⟩ (.slice a3 m3 k3)).drew)) := (((HB8.out.setCell (Nat.le_refl _) _).setCell (Nat.le_refl _) _).setCell (Nat.le_refl _) _).drew
              have HK9 : Hid (KP w2.heap.size wL ((((w8.setCell ⟨w2.heap.size, 0, none⟩ (.int .i64 r)).setCell ⟨w2.heap.size, 1, none⟩ (.int .i64 ((k : Int) + 1))).setCell ⟨w2.heap.size, 2, none⟩ (.slice a3 m3 k3)).drew)) := ((HK8.out.set 0 _).set 1 _).set 2 _
              obtain ⟨w9, hw9⟩ : ∃ w9, ((((w8.setCell ⟨w2.heap.size, 0, none⟩ (.int .i64 r)).setCell ⟨w2.heap.size, 1, none⟩ (.int .i64 ((k : Int) + 1))).setCell ⟨w2.heap.size, 2, none⟩ (.slice a3 m3 k3)).drew) = w9 := ⟨_, rfl⟩
              rw [hw9] at HX9 HZ9 HCV9 HB9 HK9 ⊢
              clear hw9 d0 d1 d2 f0 f1 f2 g0 g1 g2 HB8 HX8 HZ8 HCV8 HK8 HN8 u1 u2 u3 u4 u5 u6' u7'
              have hL9 := HK9.out.1
              have hk8 : k + 1 ≤ 8000000000000 := by omega
              have HFT2 : Hid (fitsL (cl ++ [(z.toNat, d)])) := fun p hp => by
                rcases List.mem_append.1 hp with h | h
                · exact HFT.out p h
                · obtain rfl := List.mem_singleton.1 h
                  exact ⟨by show z.toNat ≤ 1099511627776; omega, by show d ≤ 1099511627776; omega⟩
              have HRUN2 : Hid (runT r (0, []) (cl ++ [(z.toNat, d)]) = (((k + 1 : Nat) : Int), ys2)) := by
                show _ = _
                rw [runT_app, HRUN.out, HSO.out.1, HZZ.out, HYS.out, Int.natCast_add]; rfl
              have HOK3 : Hid (OkS r (((k + 1 : Nat) : Int), ys2)) := by
                show OkS _ _
                rw [Int.natCast_add]; exact HOK2.out
              go_wp2_with (at_builtin; go_must (refine push2 rfl _ _ 22 rfl wL.heap.size 36 i36 (.agg #[.int .i64 0, .int .i64 0]) Tryd.underlying22 hi36 hz0 hz1 hz2 rfl _ k _ rfl HCV9.out (.int .i64 z) (.int .i64 d) w9.heap.size rfl rfl rfl rfl hk8 hL9 ?_))
              intro cv2 w10 ho10 hg10
              have HCV10 : Hid (w10.ownsRow wL.heap.size 36 2 cv2 (k + 1) (comeC (cl ++ [(z.toNat, d)]))) := by
                show World.ownsRow _ _ _ _ _ _ _
                rw [comeC_app, HZZ.out]; exact ho10
              have HZ10 := Lib.hid (own_other2 HZ9.out HCV9.out (by decide) hg10)
              have HX10 : Hid (BX w10 w2.heap.size r ((k + 1 : Nat) : Int) (.slice a3 m3 k3)) := by
                show _ = _
                rw [grown_block hg10 HCV9.out hs4 (by omega), Int.natCast_add]; exact HX9.out
              have HB10 := Lib.hid (grown_below hg10 HCV9.out HB9.out (by omega) (by omega))
              have HK10 : Hid (KP w2.heap.size wL w10) := (HK9.out.below ((Below.refl w9.heap.size w9).alloc (Nat.le_refl _) _) hL9).grown hg10 (fun g hg => (HCV9.out.lt g hg).1)
              clear ho10 hg10 HX9 HZ9 HCV9 HB9 HK9
              go_wp2_with fail
              go_roundw
              case rel => exact ⟨k + 1, cl ++ [(z.toNat, d)], ys2, _, .slice a3 m3 k3, by omega, by go_num, by show _ = _; rw [List.length_append, HCL.out]; rfl, HFT2.out, HRUN2.out, HOK3.out, HTD.out, HB10.out, HK10.out, HX10.out, by show World.ownsRow _ _ _ _ _ _ _; rw [HM3.out]; exact HZ10.out, HCV10.out⟩
              case measure => simp [intOf]; omega
    · obtain rfl : k = n := by omega
      have hcv : wr.ownsRow wL.heap.size 36 2 u12 cl.length (comeC cl) := by rw [HCL.out]; exact HCV.out
      have HRC := Lib.hid (rdc_own hcv)
      obtain ⟨ca, ck, hcf⟩ := HRC.out.form
      rw [List.length_map, HCL.out] at hcf
      subst hcf
      have HBW := Lib.hid (HB2.out.trans (HB.out.mono HB2.out.size))
      have hfr : fitI r := by have := HRR.out; unfold fitI; omega
      have hfa := fits_all HFT.out
      have hcl : (cl.map intP).length ≤ 1048577 := by rw [List.length_map, HCL.out]; omega
      have HPR : Hid (Calls Tryd.prog 8 #[.int .i64 r, .slice ca k ck] wr fun e w' => e = .returned (.tuple #[.string ⟨(ptext r (cl.map intP)).toArray⟩, .int .i64 0]) ∧ Below wr.heap.size wr w') :=
        (print_any r _ _ wr (HTT.out.below HBW.out (Nat.le_refl _)) HRC.out hcl).mono fun e w' ⟨h1, h2⟩ => ⟨h1.elim (fun h => h.2) (fun h => absurd ⟨hfr, hfa⟩ h.1), h2⟩
      have HTL : Hid (∀ w', TW w' → Calls Tryd.prog 9 #[.string ⟨(ptext r (cl.map intP)).toArray⟩] w' fun e w'' => Below w'.heap.size w' w'' ∧ ∃ g cap, e = .returned (.tuple #[.slice (some ⟨g, 0, none⟩) (k + 1) cap, .int .i64 0]) ∧ w''.cell? ⟨g, k, none⟩ = some (.string ⟨(keptT ((k : Int), ys)).toArray⟩) ∧ w'.heap.size ≤ g ∧ g < w''.heap.size) := fun w' ht =>
        (tell_text r (cl.map intP) w' ht hfr hfa (by rw [List.length_map, HCL.out]; omega)).mono fun e w'' ⟨h1, h2⟩ => ⟨h1, h2.elim (fun h => absurd HRR.out h.1) (fun ⟨_, g, cap, h3, h4⟩ => by
          rw [natP_intP, List.length_map, HCL.out] at h4
          rw [List.length_map, HCL.out] at h3
          refine ⟨g, cap, h3, ?_, (h4.lt g rfl).1, (h4.lt g rfl).2⟩
          rw [h4.cellAt k (by omega)]
          have e1 : k = (sayT r (0, []) cl).length := by rw [sayT_len, HCL.out]
          unfold told
          rw [HRUN.out, List.getElem?_map, List.getElem?_append_right (by omega), ← e1, Nat.sub_self]
          rfl)⟩
      obtain ⟨PT, hPT⟩ : ∃ PT, ptext r (cl.map intP) = PT := ⟨_, rfl⟩
      rw [hPT] at HPR HTL
      obtain ⟨a2, k2, rfl⟩ := own_form HZ.out
      have HIK : Hid (∀ w', TW w' → Calls Tryd.prog 13 #[.int .i64 (k : Int)] w' fun e w2 => e = .returned (.string ⟨(Lib.itoa (k : Int)).toArray⟩) ∧ Below w'.heap.size w' w2) := fun w' h => itoa_any k w' h (by omega)
      have HCL21 : Hid ((Lib.itoa (k : Int)).length ≤ 21) := Lib.itoa_length_le k (by omega) (by omega)
      have q3 : (9223372036854775807 < 5 + (Lib.itoa (k : Int)).length) = False := eq_false (by have := HCL21.out; omega)
      have hLs := HK.out.1
      clear hPT hcl hfa hfr hcv HRC HCL HFT HRUN HTP HK HCV
      go_wp2_with fail
      refine HPR.out.mono ?_
      rintro e w5 ⟨rfl, hb5⟩
      have HB5 := Lib.hid hb5
      clear hb5
      go_wp2_with fail
      refine (HTL.out _ (HTT.out.below (HBW.out.trans (HB5.out.mono HBW.out.size)) (Nat.le_refl _))).mono ?_
      rintro e w6 ⟨hb6, g, gc, rfl, hgc, hg5, hg6⟩
      have HB6 := Lib.hid (HB5.out.trans (hb6.mono HB5.out.size))
      have HGC := Lib.hid hgc
      clear hb6 hgc HB5
      go_wp2_with fail
      refine (HIK.out _ (HTT.out.below (HBW.out.trans (HB6.out.mono HBW.out.size)) (Nat.le_refl _))).mono ?_
      rintro e w7 ⟨rfl, hb7⟩
      have HB7 := Lib.hid (HB6.out.trans (hb7.mono HB6.out.size))
      have HG7 : Hid (w7.cell? ⟨g, k, none⟩ = some (.string ⟨(keptT ((k : Int), ys)).toArray⟩)) := (World.cell?_of_block (hb7.block g hg6)).trans HGC.out
      have hg7 : g < w7.heap.size := by have := hb7.size; omega
      have HX7 := Lib.hid (HX.out.below HB7.out (by omega))
      have HZ7 := Lib.hid (own_below HZ.out HB7.out (Nat.le_refl _))
      have d2 := HX7.out.c2
      obtain ⟨m, hm⟩ : ∃ m, ys.length = m := ⟨_, rfl⟩
      have HM := Lib.hid hm
      rw [hm] at d2 HZ7
      clear hb7 hm HGC HX HZ HB6
      go_wp2_with fail
      clear d2
      go_loopw [26, 132] (fun tv jv wq => ∃ (j : Nat) (S : List UInt8), j ≤ m ∧ jv = .int .i64 j ∧ tv = .string ⟨S.toArray⟩ ∧ Hid (S = [107, 101, 112, 116, 32] ++ Lib.itoa (k : Int) ++ spell (ys.take j)) ∧ S.length ≤ 26 + 22 * j ∧ Hid (Below w7.heap.size w7 wq)) (fun _ jv _ => m - (intOf jv).toNat)
      case atStart =>
        refine ⟨0, [107, 101, 112, 116, 32] ++ Lib.itoa (k : Int), Nat.zero_le _, rfl, ?_, by show _ = _; simp [spell], ?_, Below.refl _ _⟩
        · rw [show (⟨#[107, 101, 112, 116, 32]⟩ : ByteArray) = ⟨[107, 101, 112, 116, 32].toArray⟩ from rfl, str_app]
        · have := HCL21.out
          simp
          omega
      case round =>
        obtain ⟨j, S, hj, rfl, rfl, HS, hSl, HBJ⟩ := hrel
        by_cases hjl : j < m
        · have hjl2 : (j : Int) < (m : Int) := by omega
          obtain ⟨gz, cp, hg⟩ := own_slice HZ7.out (by omega)
          injection hg with hg1 hg2 hg3
          subst hg1
          subst hg3
          have hjz : j < ys.length := by rw [HM.out]; exact hjl
          have hc1 : w7.cell? ⟨gz, j, none⟩ = some (.int .i64 (ys.getD j 0)) := by
            rw [HZ7.out.cellAt j (by omega), List.getElem?_map, List.getD_eq_getElem?_getD, List.getElem?_eq_getElem hjz]; rfl
          have hc2 : wr.cell? ⟨gz, j, none⟩ = some (.int .i64 (ys.getD j 0)) := (World.cell?_of_block (HBJ.out.block gz (HZ7.out.lt gz rfl).2)).trans hc1
          have hzb := HOK.out.2 (ys.getD j 0) (by rw [List.getD_eq_getElem?_getD, List.getElem?_eq_getElem hjz]; exact List.getElem_mem hjz)
          have HSP : Hid (spell (ys.take (j + 1)) = spell (ys.take j) ++ (32 :: Lib.itoa (ys.getD j 0))) := by
            show _ = _
            have e : ys.take (j + 1) = ys.take j ++ [ys.getD j 0] := by rw [List.take_add_one, List.getD_eq_getElem?_getD, List.getElem?_eq_getElem hjz]; rfl
            unfold spell
            rw [e, List.map_append, List.flatten_append]
            congr 1
            show (32 :: Lib.itoa (ys.getD j 0)) ++ [] = _
            rw [List.append_nil]
          obtain ⟨z, hz⟩ : ∃ z, ys.getD j 0 = z := ⟨_, rfl⟩
          rw [hz] at hc2 hzb HSP
          have HI : Hid (Calls Tryd.prog 13 #[.int .i64 z] wr fun e w' => e = .returned (.string ⟨(Lib.itoa z).toArray⟩) ∧ Below wr.heap.size wr w') := itoa_any z wr (HTT.out.below (HBW.out.trans ((HB7.out.trans (HBJ.out.mono HB7.out.size)).mono HBW.out.size)) (Nat.le_refl _)) (by omega)
          have hzl := Lib.itoa_length_le z (by omega) (by omega)
          have hm4 : m ≤ 400 := by have h : RightP r k ys.length := HOK.out.1; obtain ⟨_, _, _, _, _⟩ := h; have := HM.out; omega
          have HSL : Hid (S.length ≤ 26 + 22 * j) := hSl
          have HZL : Hid ((Lib.itoa z).length ≤ 21) := hzl
          have q1 : (9223372036854775807 < 1 + (Lib.itoa z).length) = False := eq_false (by omega)
          have q2 : (9223372036854775807 < S.length + (1 + (Lib.itoa z).length)) = False := eq_false (by omega)
          clear hz hc1 hjz hzb hzl hSl q3
          go_wp2_with fail
          refine HI.out.mono ?_
          rintro e w8 ⟨rfl, hb8⟩
          have HB8 := Lib.hid (HBJ.out.trans (hb8.mono HBJ.out.size))
          clear hb8 hc2
          go_wp2_with fail
          go_roundw
          case rel =>
            refine ⟨j + 1, S ++ ([32] ++ Lib.itoa z), by omega, by go_num, ?_, ?_, ?_, HB8.out⟩
            · rw [show (⟨#[32]⟩ : ByteArray) = ⟨[32].toArray⟩ from rfl, str_app, str_app]
            · show _ = _
              rw [HSP.out, HS.out]
              simp
            · have := HSL.out
              have := HZL.out
              simp
              omega
          case measure => simp [intOf]; omega
        · obtain rfl : j = m := by omega
          have hS : S = keptT ((k : Int), ys) := by
            rw [HS.out, List.take_of_length_le (by rw [HM.out]; exact Nat.le_refl _)]; rfl
          subst hS
          have hcr : wr.cell? ⟨g, k, none⟩ = some (.string ⟨(keptT ((k : Int), ys)).toArray⟩) := (World.cell?_of_block (HBJ.out.block g hg7)).trans HG7.out
          have HBE := Lib.hid (HBW.out.trans ((HB7.out.trans (HBJ.out.mono HB7.out.size)).mono HBW.out.size))
          obtain ⟨KT, hKT⟩ : ∃ KT, keptT ((k : Int), ys) = KT := ⟨_, rfl⟩
          rw [hKT] at hcr ⊢
          have hbb : (KT == KT) = true := beq_self_eq_true _
          have b1 : (0 ≤ (k : Int) ∧ (k : Int) < ((k + 1 : Nat) : Int)) = True := eq_true ⟨Int.natCast_nonneg _, by omega⟩
          have b2 : ((k : Int) < ((k + 1 : Nat) : Int)) = True := eq_true (by omega)
          have b3 : ((k : Int) < (k : Int) + 1) = True := eq_true (by omega)
          have b4 : (k < k + 1) = True := eq_true (by omega)
          have b5 : ((k : Int) + 1 ≤ (k : Int)) = False := eq_false (by omega)
          have b6 : (k + 1 ≤ k) = False := eq_false (by omega)
          have b7 : IntKind.i64.wrap ((k : Int) + 1) = (k : Int) + 1 := by rw [IntKind.wrap_i64]; omega
          clear hKT hSl HS q3
          go_wp2_with fail
          go_ret
          exact ⟨rfl, HBE.out⟩
theorem topPooled.walk (r : Int) (a1 : Option Addr) (len1 cap1 : Nat) (z1 : List Int) (x : Int) (w : World) (hT : TW w) (_ : (Lit.int .i64 r).wf = true) (w1 : IsRow .i64 w a1 len1 cap1 z1) (w2 : (Lit.int .u64 x).wf = true) :
    Calls Tryd.prog 6 #[.int .i64 r, .slice a1 len1 cap1, .int .u64 x] w fun e w' => e = .returned (.bool true) ∧ Below w.heap.size w w' := by
  obtain ⟨h1, g1⟩ := w1.rd
  obtain ⟨y, rfl⟩ := Mix.U_of w2
  by_cases hr : 1 ≤ r ∧ r ≤ 400
  · by_cases hl : 60 < (z1.take len1).length
    · exact pooled_many r _ _ y w hT h1 hr hl
    · exact pooled_ok r _ _ y w hT h1 hr (by omega)
  · exact pooled_bad r _ _ y w hT h1 hr
end Go.Proofs.YthaiopgmncnekaaDoor
