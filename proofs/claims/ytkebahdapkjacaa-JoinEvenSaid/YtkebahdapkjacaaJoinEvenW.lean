/- The walk of JoinEven. No condition. -/
import Derived.Test.YtkebahdapkjacaaJE1
import Derived.Deep.AppendLies
import Derived.Deep.RegionLaw
set_option linter.unusedSimpArgs false
set_option linter.unusedVariables false
namespace Go.Proofs.Ytkebahdapkjacaa.joinEven
open Go.RowKit Go.Maps Go.Proofs.Ytkebahdapkjacaa
theorem bound_kn (k j : Nat) (h1 : k ≤ 31) (h2 : j ≤ 32) : k * 16000 + j * 500 ≤ 1000000 := by omega
theorem bound_kx (k j : Nat) (h : j ≤ 32) : k * 16000 + j * 500 ≤ (k + 1) * 16000 := by omega
theorem bound_kj (k j : Nat) (h1 : k ≤ 31) (h2 : j ≤ 32) : k * 11531520000 + j * 360360000 ≤ 1000000000000 := by omega
set_option maxHeartbeats 3200000 in
set_option maxRecDepth 20000 in
theorem run (room n m : Nat) (w : World) (h1 : 1 ≤ room) (h2 : room ≤ 2) (h3 : n + m ≤ 5) (h4 : room ≤ n + m) :
    Calls Try.prog 3 #[.int .i64 room, .int .i64 n, .int .i64 m] w fun e w' => e = .returned (.bool true) ∧ Below w.heap.size w w' := by
  have f1 : decide ((room : Int) < 1) = false := decide_eq_false (by omega)
  have f2 : decide (2 < (room : Int)) = false := decide_eq_false (by omega)
  have f3 : decide ((n : Int) < 0) = false := decide_eq_false (by omega)
  have f4 : decide ((m : Int) < 0) = false := decide_eq_false (by omega)
  have f5 : decide (5 < (n : Int)) = false := decide_eq_false (by omega)
  have f6 : decide (5 < (m : Int)) = false := decide_eq_false (by omega)
  have f7 : decide (5 < (n : Int) + (m : Int)) = false := decide_eq_false (by omega)
  have f8 : decide ((n : Int) + (m : Int) < (room : Int)) = false := decide_eq_false (by omega)
  have hmm := @run_makeMap Try.prog
  obtain ⟨i3, hi3, hz0, hz1, hz2⟩ := info_parts Try.info3
  have e1 : min (room : Int) (n : Int) = ((min room n : Nat) : Int) := by omega
  have e2 : min (room : Int) (m : Int) = ((min room m : Nat) : Int) := by omega
  have HX := Lib.hid (fun w => eall_ok (min room n) n w (by omega) (by omega))
  have HY := Lib.hid (fun w => eall_ok (min room m) m w (by omega) (by omega))
  have HF := Lib.hid (fine_at (fine_all n (by omega) m (by omega) room h2 h1 h4))
  have hck := chkJ_all n (by omega) m (by omega) room h2 h1 h4
  unfold chkJ AJ at hck
  have HCK := Lib.hid hck
  have HXR := Lib.hid (ea_row n (min room n))
  have HYR := Lib.hid (ea_row m (min room m))
  have HYB := Lib.hid (ea_bd m (min room m))
  have hX32 : (ea n (min room n)).length ≤ 32 := by
    have h1 := ea_len n (min room n)
    have h2 : 2 ^ n ≤ 2 ^ 5 := Nat.pow_le_pow_right (by omega) (by omega)
    omega
  have hY32 : (ea m (min room m)).length ≤ 32 := by
    have h1 := ea_len m (min room m)
    have h2 : 2 ^ m ≤ 2 ^ 5 := Nat.pow_le_pow_right (by omega) (by omega)
    omega
  have HP20 : Hid (prodN (basesJ (n + m) room) ≤ 20) := by
    have hW := ways_eq (n + m) h3 room h2 h4
    show _ ≤ _
    omega
  clear hck
  generalize ea n (min room n) = xs at *
  generalize ea m (min room m) = ys at *
  have HA0 : Hid (AJx room n m xs ys 0 = []) := rfl
  have HLX : Hid (∀ k z, k ≤ xs.length → lk (AJx room n m xs ys k) z ≤ k * 11531520000) := fun k z hk => lk_AJx room n m xs ys z HP20.out hY32 k (fun i hi j hj => HF.out i j (by omega) hj)
  have HXS := Lib.hid (AJx_succ room n m xs ys)
  obtain ⟨X, hX⟩ : ∃ X, xs.length = X := ⟨_, rfl⟩
  obtain ⟨Y, hY⟩ : ∃ Y, ys.length = Y := ⟨_, rfl⟩
  have HXE := Lib.hid hX
  have HYE := Lib.hid hY
  rw [hX] at hX32 HCK HLX HF
  rw [hY] at hY32 HXS HF
  clear hX hY
  go_enter Try.func3, Try.ntmps3
  go_wp2_with fail
  refine (alive_any _).mono ?_
  rintro e w1 ⟨rfl, hb⟩
  have H1 := Lib.hid hb
  clear hb
  go_wp2_with fail
  have HM0 : Hid (MC (w1.alloc (.map #[] 0)) w1.heap.size 0 []) := MC.made w1
  have HB0 : Hid (Below w.heap.size w (w1.alloc (.map #[] 0))) := H1.out.alloc H1.out.size _
  have HMB : Hid (w.heap.size ≤ w1.heap.size) := H1.out.size
  clear hmm
  refine (HX.out _).mono ?_
  rintro e w2 ⟨hb2, vx, rfl, hom⟩
  have HM2 := Lib.hid (HM0.out.kept hb2 HM0.out.lt)
  have HB2 := Lib.hid (HB0.out.trans (hb2.mono HB0.out.size))
  have HML := Lib.hid HM2.out.lt
  obtain ⟨ax, cx, rfl, hlc, hcm, hst⟩ := hom.stays (mb := w1.heap.size) (by simp)
  have HDV := Lib.hid hst
  rw [HXE.out] at HDV hlc
  rw [HXE.out]
  have hx32 : X ≤ 32 := hX32
  clear hom hb2 hst hlc hcm
  generalize w1.heap.size = mb at *
  go_wp2_with fail
  obtain ⟨ww, rfl⟩ : ∃ ww : World, ww = w2 := ⟨_, rfl⟩
  go_loopw [64, 8] (fun kv ov wr => ∃ k : Nat, k ≤ X ∧ kv = .int .i64 k ∧ ov = .bool true ∧ Hid (MC wr mb (k * 16000) (AJx room n m xs ys k)) ∧ Hid (ww.grownBy wr (some mb))) (fun kv _ _ => X - (intOf kv).toNat)
  case atStart => exact ⟨0, Nat.zero_le _, rfl, rfl, by rw [HA0.out]; exact HM2.out.mono (by omega), World.grownBy.refl _ _⟩
  case round =>
    obtain ⟨k, hkX, rfl, rfl, HMk, HGk⟩ := hrel
    by_cases hkl : k < X
    · obtain ⟨b, off, U, rfl, hU⟩ := HDV.out wr HGk.out (by omega)
      obtain ⟨c1, r1⟩ := hU k hkl
      obtain ⟨au, ku, hUv, -, -⟩ := r1.slice
      have HXK := Lib.hid (HF.out k)
      have hrl : (xs.getD k []).length = min room n := HXR.out _ (by
        have hkk : k < xs.length := by rw [HXE.out]; exact hkl
        rw [List.getD_eq_getElem?_getD, List.getElem?_eq_getElem hkk]; exact List.getElem_mem _)
      have HLk := Lib.hid (HLX.out k)
      have HXSk := Lib.hid (HXS.out k)
      rw [hUv] at c1 r1
      have hnx2 : min room n ≤ 2 := by omega
      have HR1 := Lib.hid r1
      clear hU r1 hUv
      obtain ⟨x, hxx⟩ : ∃ x, xs.getD k [] = x := ⟨_, rfl⟩
      rw [hxx] at c1 HR1 HXK hrl HXSk
      clear hxx
      rw [hrl] at c1 HR1
      have HRL := Lib.hid hrl
      obtain ⟨nx, hnx⟩ : ∃ nx, min room n = nx := ⟨_, rfl⟩
      rw [hnx] at c1 HR1 hnx2 HRL
      have HNX := Lib.hid hnx
      clear hnx
      have hkk : (k : Int) < (X : Int) := by omega
      clear hrl
      go_wp2_with fail
      have HMBw : Hid (mb < wr.heap.size) := HMk.out.lt
      refine (HY.out _).mono ?_
      rintro e w3 ⟨hb3, vy, rfl, hom3⟩
      obtain ⟨ay, cy, rfl, hlcy, hcmy, hsty⟩ := hom3.stays HMBw.out
      have HDY := Lib.hid hsty
      rw [HYE.out] at HDY
      rw [HYE.out]
      have HM3 := Lib.hid (HMk.out.kept hb3 HMk.out.lt)
      have HR3 := Lib.hid (HR1.out.below hb3 (Nat.le_refl _))
      have HG3 : Hid (ww.grownBy w3 (some mb)) := grown_trans HGk.out ⟨hb3.os, hb3.tape, hb3.output, hb3.size, fun i hi _ => hb3.block i hi⟩
      clear hb3 hom3 hlcy hcmy hsty c1
      go_wp2_with fail
      obtain ⟨wi, rfl⟩ : ∃ wi : World, wi = w3 := ⟨_, rfl⟩
      have HM3' : Hid (MC wi mb (k * 16000 + 0 * 500) (AJy (AJx room n m xs ys k) room n m x ys 0)) := by rw [Nat.zero_mul, Nat.add_zero]; exact HM3.out
      have hcd : k * 16000 ≤ 512000 := by omega
      go_loopw [74, 8] (fun jv ov wr => ∃ j : Nat, j ≤ Y ∧ jv = .int .i64 j ∧ ov = .bool true ∧ Hid (MC wr mb (k * 16000 + j * 500) (AJy (AJx room n m xs ys k) room n m x ys j)) ∧ Hid (wi.grownBy wr (some mb))) (fun jv _ _ => Y - (intOf jv).toNat)
      case atStart => exact ⟨0, Nat.zero_le _, rfl, rfl, HM3'.out, World.grownBy.refl _ _⟩
      case round =>
        clear HM3'
        obtain ⟨j, hjY, rfl, rfl, HMj, HGj⟩ := hrel
        by_cases hjl : j < Y
        · obtain ⟨b2, off2, U2, rfl, hU2⟩ := HDY.out wr HGj.out (Nat.lt_of_le_of_lt (Nat.zero_le _) hjl)
          obtain ⟨c2, r2⟩ := hU2 j hjl
          obtain ⟨av, kv, hUv, -, -⟩ := r2.slice
          have hjl2 : j < ys.length := by rw [HYE.out]; exact hjl
          have hmem : ys.getD j [] ∈ ys := by rw [List.getD_eq_getElem?_getD, List.getElem?_eq_getElem hjl2]; exact List.getElem_mem _
          have hrl2 : (ys.getD j []).length = min room m := HYR.out _ hmem
          have HYBj : Hid (∀ z ∈ ys.getD j [], (0 : Int) ≤ z ∧ z < m) := HYB.out _ hmem
          have HFj := Lib.hid (HXK.out j hkl hjl)
          rw [hUv] at c2 r2
          have HYS := Lib.hid (AJy_succ (AJx room n m xs ys k) room n m x ys j)
          have HR2 := Lib.hid r2
          clear hU2 r2 hUv hmem hjl2
          obtain ⟨y, hyy⟩ : ∃ y, ys.getD j [] = y := ⟨_, rfl⟩
          rw [hyy] at c2 HR2 HFj hrl2 HYBj HYS
          clear hyy
          rw [hrl2] at c2 HR2
          have HRL2 := Lib.hid hrl2
          obtain ⟨ny, hny⟩ : ∃ ny, min room m = ny := ⟨_, rfl⟩
          rw [hny] at c2 HR2 HRL2
          have HNY := Lib.hid hny
          have hny2 : ny ≤ 2 := by omega
          have hjj : (j : Int) < (Y : Int) := by omega
          clear hrl2 hny
          go_wp2_with fail
          have HA0 : Hid (BX ((wr.alloc (.cells #[.int .i64 room, .int .i64 n, .slice au nx ku] 28)).alloc (.cells #[.int .i64 room, .int .i64 m, .slice none 0 0] 28)) wr.heap.size room n (.slice au nx ku)) := (BX.new wr _ _ _).below ((Below.refl _ _).alloc (Nat.le_refl _) _) (BX.new wr _ _ _).lt
          have HC0 : Hid (BX ((wr.alloc (.cells #[.int .i64 room, .int .i64 n, .slice au nx ku] 28)).alloc (.cells #[.int .i64 room, .int .i64 m, .slice none 0 0] 28)) (wr.heap.size + 1) room m (.slice none 0 0)) := by
            have := BX.new (wr.alloc (.cells #[.int .i64 room, .int .i64 n, .slice au nx ku] 28)) room m (.slice none 0 0)
            show BX _ _ _ _ _
            simpa using this
          have HBz : Hid (Below wr.heap.size wr ((wr.alloc (.cells #[.int .i64 room, .int .i64 n, .slice au nx ku] 28)).alloc (.cells #[.int .i64 room, .int .i64 m, .slice none 0 0] 28))) := ((Below.refl _ _).alloc (Nat.le_refl _) _).alloc (by simp) _
          have HSz : Hid (wr.heap.size + 2 ≤ ((wr.alloc (.cells #[.int .i64 room, .int .i64 n, .slice au nx ku] 28)).alloc (.cells #[.int .i64 room, .int .i64 m, .slice none 0 0] 28)).heap.size) := by show _ ≤ _; simp
          generalize (wr.alloc (.cells #[.int .i64 room, .int .i64 n, .slice au nx ku] 28)).alloc (.cells #[.int .i64 room, .int .i64 m, .slice none 0 0] 28) = wz at *
          obtain ⟨P, hP⟩ : ∃ P, wr.heap.size = P := ⟨_, rfl⟩
          have HPe := Lib.hid hP
          rw [hP] at HA0 HC0 HBz HSz
          rw [hP]
          clear hP c2
          have HRy := Lib.hid (HR2.out.below HBz.out (by rw [HPe.out]; exact Nat.le_refl _))
          have HTK : Hid (∀ p, p < ny → shiftJ n (y.take (p + 1)) = shiftJ n (y.take p) ++ [(n : Int) + y.getD p 0]) := fun p hp => shiftJ_take n y p (by rw [HRL2.out]; exact hp)
          have hmbP : mb < P := by rw [← HPe.out]; exact HMj.out.lt
          have HMP := Lib.hid hmbP
          clear hmbP
          obtain ⟨wj, rfl⟩ : ∃ wj : World, wj = wr := ⟨_, rfl⟩
          have HS0 : Hid (wz.ownsRow (P + 2) 3 1 (.slice none 0 0) 0 ((shiftJ n (y.take 0)).map (Value.int .i64))) := World.ownsRow_nil _ _ _ _
          go_loopw [87] (fun pv wq => ∃ p : Nat, p ≤ ny ∧ pv = .int .i64 p ∧ ∃ hv : Value, Hid (BX wq P room n (.slice au nx ku)) ∧ Hid (BX wq (P + 1) room m hv) ∧ Hid (wq.ownsRow (P + 2) 3 1 hv p ((shiftJ n (y.take p)).map (Value.int .i64))) ∧ Hid (Below P wz wq) ∧ Hid (P + 2 ≤ wq.heap.size)) (fun pv _ => ny - (intOf pv).toNat)
          case atStart => exact ⟨0, Nat.zero_le _, rfl, _, HA0.out, HC0.out, HS0.out, Below.refl _ _, HSz.out⟩
          case round =>
            clear HA0 HC0 HS0 HSz
            obtain ⟨p, hp, rfl, hv, HA, HC, HO, HB, HS⟩ := hrel
            obtain ⟨ah, kh, rfl⟩ := own_slice HO.out
            by_cases hpl : p < ny
            · obtain ⟨by', oy, rfl, hby, cy⟩ := (HR2.out.below (HBz.out.trans HB.out) (by rw [HPe.out]; exact Nat.le_refl _)).at hpl
              have hpp : (p : Int) < (ny : Int) := by omega
              have hyb := HYBj.out (y.getD p 0) (by
                have : p < y.length := by rw [HRL2.out]; exact hpl
                rw [List.getD_eq_getElem?_getD, List.getElem?_eq_getElem this]; exact List.getElem_mem _)
              have HTp := Lib.hid (HTK.out p hpl)
              generalize y.getD p 0 = z at *
              obtain ⟨z0, z1⟩ := hyb
              have b2 := HC.out.c2
              have fb2 := HC.out.fr 2
              have hs2 := HS.out
              have g1 : ¬ P + 1 = P := by omega
              have hl6 : wrap64 ((n : Int) + z) = (n : Int) + z := by unfold wrap64; omega
              go_wp2_with (at_builtin; go_must (refine push rfl _ _ 26 rfl (P + 2) 3 i3 (.int .i64 0) 8 Try.underlying26 hi3 hz0 hz1 hz2 rfl _ p ((shiftJ n (y.take p)).map (Value.int .i64)) rfl HO.out (.int .i64 ((n : Int) + z)) wr.heap.size rfl rfl rfl (by decide) (by omega) hs2 ?_))
              intro v5 w5 ho5 hg5
              have hgb : Below (P + 2) wr w5 := grown_below hg5 HO.out (Below.refl _ _) (Nat.le_refl _) hs2
              have HA5 := Lib.hid (HA.out.below hgb (by omega))
              have HC5 := Lib.hid (HC.out.below hgb (by omega))
              have HO5 : Hid (w5.ownsRow (P + 2) 3 1 v5 (p + 1) ((shiftJ n (y.take (p + 1))).map (Value.int .i64))) := by rw [HTp.out, List.map_append]; exact ho5
              have HB5 := Lib.hid (HB.out.trans (hgb.mono (by omega)))
              have HS5 : Hid (P + 2 ≤ w5.heap.size) := Nat.le_trans hs2 hgb.size
              have f5 := HC5.out.fr 2
              have b5 := HC5.out.c2
              obtain ⟨a5, k5, rfl⟩ := own_slice HO5.out
              clear ho5 hg5 hgb cy b2 fb2
              go_wp2_with fail
              go_roundw
              case rel => exact ⟨p + 1, by omega, by go_num, _, HA5.out.other (by show P + 1 ≠ P; omega) _, HC5.out.set2 _, own_store HO5.out (by show P + 1 < P + 2; omega) _, HB5.out.setCell (by show P ≤ P + 1; omega) _, by show _ ≤ _; simpa [World.setCell] using HS5.out⟩
              case measure => simp [intOf]; omega
            · obtain rfl : p = ny := by omega
              have HTA : Hid (shiftJ n (y.take p) = shiftJ n y) := by show _ = _; rw [List.take_of_length_le (by rw [HRL2.out]; exact Nat.le_refl _)]
              rw [HTA.out] at HO
              have HSL : Hid ((shiftJ n y).length = p) := by show _ = _; unfold shiftJ; rw [List.length_map, HRL2.out]
              have HBP : Hid (Below P wj wr) := HBz.out.trans HB.out
              have HMp : Hid (MC wr mb (k * 16000 + j * 500) (AJy (AJx room n m xs ys k) room n m x ys j)) := (HMj.out.kept HBP.out HMP.out)
              have HGp : Hid (wi.grownBy wr (some mb)) := grown_trans HGj.out ⟨HBP.out.os, HBP.out.tape, HBP.out.output, HBP.out.size, fun i hi _ => HBP.out.block i (by rw [← HPe.out]; exact hi)⟩
              have HRx : Hid (Rd wr (.slice au nx ku) x) := (HR3.out.grown' HM3.out HGp.out)
              have HRh : Hid (Rd wr (.slice ah p kh) (shiftJ n y)) := Rd.own HO.out
              have HLK : Hid (∀ z, lk (AJy (AJx room n m xs ys k) room n m x ys j) z ≤ 1000000000000) := fun z => by
                have e1 := lk_AJy (AJx room n m xs ys k) room n m x ys z _ (HLk.out z hkX) HP20.out j (fun j' hj' => HXK.out j' hkl (by omega))
                exact Nat.le_trans e1 (bound_kj k j (by omega) (by omega))
              have HNB : Hid (k * 16000 + j * 500 ≤ 1000000) := bound_kn k j (by omega) (by omega)
              have HDR := Lib.hid (draws_ok room n m x (shiftJ n y) au ah nx p ku kh wr mb _ _ _ h1 h2 h3 h4 HRx.out HRh.out HRL.out HSL.out HNX.out.symm HNY.out.symm HMp.out HNB.out HLK.out (Nat.le_refl _) HFj.out)
              have HYE2 := Lib.hid HYS.out.symm
              rw [HYE2.out] at HDR
              have c0 := HA.out.c0
              have c1 := HA.out.c1
              have c2 := HA.out.c2
              have d0 := HC.out.c0
              have d1 := HC.out.c1
              have d2 := HC.out.c2
              go_wp2_with fail
              refine HDR.out.mono ?_
              rintro e w5 ⟨rfl, hm5, hg5⟩
              have HM5 : Hid (MC w5 mb (k * 16000 + (j + 1) * 500) (AJy (AJx room n m xs ys k) room n m x ys (j + 1))) := by
                show MC _ _ _ _
                rw [Nat.add_mul j 1 500, Nat.one_mul, ← Nat.add_assoc]
                exact hm5
              have HG5 := Lib.hid (grown_trans HGp.out hg5)
              clear hm5 hg5 c0 c1 c2 d0 d1 d2
              go_wp2_with fail
              exact ⟨⟨j + 1, by omega, by go_num, rfl, HM5.out, HG5.out⟩, by simp [intOf]; omega⟩
        · obtain rfl : j = Y := by omega
          have HMx : Hid (MC wr mb ((k + 1) * 16000) (AJx room n m xs ys (k + 1))) := by
            show MC _ _ _ _
            rw [HXSk.out]
            exact HMj.out.mono (bound_kx k j hY32)
          have HGx := Lib.hid (grown_trans HG3.out HGj.out)
          go_wp2_with fail
          exact ⟨⟨k + 1, by omega, by go_num, rfl, HMx.out, HGx.out⟩, by simp [intOf]; omega⟩
    · obtain rfl : k = X := by omega
      have HBk : Hid (Below w.heap.size w wr) := HB2.out.grown HGk.out HB2.out.size (fun q hq => by cases hq; exact HMB.out)
      obtain ⟨D, hD1, hD2, hD3, hD4, hD5⟩ := HMk.out
      have HD1 := Lib.hid hD1
      have HD3 := Lib.hid hD3
      have HD4 := Lib.hid hD4
      have HD5 := Lib.hid hD5
      have hck := HCK.out
      simp only [Bool.and_eq_true, decide_eq_true_eq] at hck
      have HCA := Lib.hid hck.1
      have HCL := Lib.hid hck.2
      clear hD1 hD2 hD3 hD4 hD5 hck HCK
      obtain ⟨N, hN⟩ : ∃ N, k * 16000 = N := ⟨_, rfl⟩
      rw [hN] at HD1
      clear hN
      generalize AJx room n m xs ys k = A at *
      obtain ⟨V, hV⟩ : ∃ V, (A.getD 0 (0, 0)).2 = V := ⟨_, rfl⟩
      rw [hV] at HCA
      clear hV
      obtain ⟨wk, rfl⟩ : ∃ wk : World, wk = wr := ⟨_, rfl⟩
      have hen : (n : Int) + (m : Int) = ((n + m : Nat) : Int) := rfl
      have HEN := Lib.hid hen
      clear hen
      go_wp2_with (at_range; go_must (refine wpList_range_own _ rfl _ 23 rfl 3 3 key3 Try.underlying23 _ mb N D rfl HD1.out ?_))
      intro w6 hrg hg6 hs6
      have HRG := Lib.hid hrg
      have HB6 := Lib.hid (HBk.out.grown hg6 HBk.out.size (fun k hk => by cases hk))
      obtain ⟨T, hT⟩ : ∃ T, wk.heap.size = T := ⟨_, rfl⟩
      rw [hT] at HRG ⊢
      have HTw : Hid (w.heap.size ≤ T) := by have := HBk.out.size; show _ ≤ _; omega
      clear hrg hg6 hs6 hT
      go_wp2_with fail
      go_loopw [19, 17] (fun _ ov wr => ∃ left cnt, ∃ one : Int, ov = .int .i64 one ∧ Hid (one = -1 ∨ one = V) ∧ Hid (wr.ranges Try.prog 3 (plainElem Try.prog 3) mb T N D left cnt) ∧ Hid (Below w.heap.size w wr)) (fun _ _ wr => wr.rangeLeft mb T)
      case atStart => exact ⟨_, _, -1, rfl, .inl rfl, HRG.out, HB6.out⟩
      case round =>
        clear HRG HB6
        obtain ⟨left, cnt, one, rfl, HONE, HRG, HBE⟩ := hrel
        go_wp2_with (at_next; go_must (refine wpList_next_ranges_ii _ rfl _ rfl 3 3 .i64 .i64 key3 Try.underlying3 Try.underlying3 mb T N _ _ _ rfl HRG.out ?_ ?_))
        · intro hc0 hl0
          have HOW2 := Lib.hid HRG.out.owns
          have hln := HOW2.out.len Try.underlying23 3
          rw [HD5.out, HCL.out] at hln
          go_wp2_with fail
          rw [HEN.out]
          refine (EOf_any (n + m) room (by omega) _).mono ?_
          rintro e w9 ⟨rfl, hb9⟩
          have HB9 := Lib.hid (HBE.out.trans (hb9.mono HBE.out.size))
          have hpp : (((pas (n + m) room : Nat) : Int) == ((pas (n + m) room : Nat) : Int)) = true := by simp
          clear hb9
          go_wp2_with fail
          go_ret
          exact ⟨by simp, HB9.out⟩
        · intro z c w7 cnt7 hwx hwc hlx hat hrg7 hlt7 hg7 hs7 hen
          have hcl : c = lk A z := by
            have := HD3.out z
            rw [hat] at this
            simpa using this
          have hhk : hk A z = true := by
            rw [← HD4.out]
            exact has_true_of_atKey hat
          have hck : lk A z = V := by
            have := lk_all (P := fun c => c == V) _ z HCA.out hhk
            simpa only [beq_iff_eq] using this
          rw [hck] at hcl
          subst hcl
          have HR7 := Lib.hid hrg7
          have HB7 := Lib.hid (HBE.out.grown hg7 HBE.out.size (fun k hk => by cases hk; exact HTw.out))
          have HLT : Hid (cnt7 < cnt) := hlt7
          clear hlx hat hrg7 hlt7 hg7 hs7 hck hhk
          have hone := HONE.out
          clear HONE
          rcases hone with rfl | rfl
          all_goals
            go_wp2_with fail
            go_roundw
            case rel => exact ⟨_, _, V, rfl, .inr rfl, HR7.out, HB7.out⟩
            case measure => rw [HR7.out.left_eq, HRG.out.left_eq]; exact HLT.out
theorem walk (a0 a1 a2 : Int) (w : World) (w0 : (Lit.int .i64 a0).wf = true) (w1 : (Lit.int .i64 a1).wf = true) (w2 : (Lit.int .i64 a2).wf = true) :
    Calls Try.prog 3 #[.int .i64 a0, .int .i64 a1, .int .i64 a2] w fun e w' => e = .returned (.bool true) ∧ Below w.heap.size w w' := by
  by_cases k1 : 1 ≤ a0 ∧ a0 ≤ 2 ∧ 0 ≤ a1 ∧ 0 ≤ a2 ∧ a1 ≤ 5 ∧ a2 ≤ 5 ∧ a1 + a2 ≤ 5 ∧ a0 ≤ a1 + a2
  · obtain ⟨r, rfl⟩ : ∃ r : Nat, a0 = r := ⟨a0.toNat, by omega⟩
    obtain ⟨n, rfl⟩ : ∃ r : Nat, a1 = r := ⟨a1.toNat, by omega⟩
    obtain ⟨m, rfl⟩ : ∃ r : Nat, a2 = r := ⟨a2.toNat, by omega⟩
    exact run r n m w (by omega) (by omega) (by omega) (by omega)
  · have hx : decide (a0 < 1) = true ∨ (decide (a0 < 1) = false ∧ decide (2 < a0) = true) ∨ (decide (a0 < 1) = false ∧ decide (2 < a0) = false ∧ decide (a1 < 0) = true) ∨ (decide (a0 < 1) = false ∧ decide (2 < a0) = false ∧ decide (a1 < 0) = false ∧ decide (a2 < 0) = true) ∨ (decide (a0 < 1) = false ∧ decide (2 < a0) = false ∧ decide (a1 < 0) = false ∧ decide (a2 < 0) = false ∧ decide (5 < a1) = true) ∨ (decide (a0 < 1) = false ∧ decide (2 < a0) = false ∧ decide (a1 < 0) = false ∧ decide (a2 < 0) = false ∧ decide (5 < a1) = false ∧ decide (5 < a2) = true) ∨ (decide (a0 < 1) = false ∧ decide (2 < a0) = false ∧ decide (a1 < 0) = false ∧ decide (a2 < 0) = false ∧ decide (5 < a1) = false ∧ decide (5 < a2) = false ∧ wrap64 (a1 + a2) = a1 + a2 ∧ decide (5 < a1 + a2) = true) ∨ (decide (a0 < 1) = false ∧ decide (2 < a0) = false ∧ decide (a1 < 0) = false ∧ decide (a2 < 0) = false ∧ decide (5 < a1) = false ∧ decide (5 < a2) = false ∧ wrap64 (a1 + a2) = a1 + a2 ∧ decide (5 < a1 + a2) = false ∧ decide (a1 + a2 < a0) = true) := by
      simp only [decide_eq_true_eq, decide_eq_false_iff_not]
      unfold wrap64
      omega
    clear k1 w0 w1 w2
    rcases hx with f1 | ⟨f1, f2⟩ | ⟨f1, f2, f3⟩ | ⟨f1, f2, f3, f4⟩ | ⟨f1, f2, f3, f4, f5⟩ | ⟨f1, f2, f3, f4, f5, f6⟩ | ⟨f1, f2, f3, f4, f5, f6, f7, f8⟩ | ⟨f1, f2, f3, f4, f5, f6, f7, f8, f9⟩
    all_goals
      go_enter Try.func3, Try.ntmps3
      go_wp2_with fail
      refine (alive_any _).mono ?_
      rintro e w1 ⟨rfl, hb⟩
      have H1 := Lib.hid hb
      clear hb
      go_wp2_with fail
      go_ret
      exact ⟨rfl, H1.out⟩
end Go.Proofs.Ytkebahdapkjacaa.joinEven
