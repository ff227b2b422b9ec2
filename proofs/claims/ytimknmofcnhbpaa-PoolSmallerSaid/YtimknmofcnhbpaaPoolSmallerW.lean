/- The walk of PoolSmaller. No condition. -/
import Derived.Test.YtimknmofcnhbpaaLook2
set_option linter.unusedSimpArgs false
set_option linter.unusedVariables false
namespace Go.Proofs.Ytimknmofcnhbpaa.poolSmaller
open Go.RowKit Go.Maps Go.Proofs.Ytimknmofcnhbpaa
/-- What lies there after j rounds. -/
def Inv (r d n : Nat) (wS : World) (mb : Nat) (j : Nat) (w : World) : Prop :=
  MC w mb (j * outF r d) (ALo r d n j) ∧ wS.grownBy w (some mb)
theorem rows_small (r m n : Nat) (w : World) (Bo Bl Bb Bf Bt mb : Nat) (vb : Value) (h1 : m < r) (h1' : 0 < m) (h2 : r ≤ n) (h3 : n ≤ 5) (hM : MC w mb 0 [])
    (ho : C1 w Bo (.int .i64 (outF r (r - m) : Nat)) 3) (hl : C1 w Bl (.int .i64 m) 3) (hb : C1 w Bb vb 25) (hbr : Rd w vb (castL (basesF r (r - m)))) (hf : C1 w Bf (.bool true) 4) (ht : C1 w Bt (.map (some mb)) 23) :
    Calls Try.prog 8 #[.int .i64 r, .int .i64 n, .func (.func 10) #[] #[.pointer (some ⟨Bo, 0, none⟩), .pointer (some ⟨Bl, 0, none⟩), .pointer (some ⟨Bb, 0, none⟩), .pointer (some ⟨Bf, 0, none⟩), .pointer (some ⟨Bt, 0, none⟩)]] w fun e w' => e = .returned (.bool true) ∧ Inv r (r - m) n w mb (fac n) w' := by
  refine (rows_ok 10 (.inr rfl) #[.pointer (some ⟨Bo, 0, none⟩), .pointer (some ⟨Bl, 0, none⟩), .pointer (some ⟨Bb, 0, none⟩), .pointer (some ⟨Bf, 0, none⟩), .pointer (some ⟨Bt, 0, none⟩)] (Inv r (r - m) n w mb) r n w (by omega) h2 (by omega) ?_ ?_ ⟨by rw [Nat.zero_mul]; exact hM, World.grownBy.refl _ _⟩).mono ?_
  · rintro j w1 w2 ⟨i1, i2⟩ hbe
    exact ⟨i1.kept hbe hM.lt, ⟨hbe.os.trans i2.os, hbe.tape.trans i2.tape, hbe.output.trans i2.output, Nat.le_trans i2.size hbe.size, fun i hi hne => (hbe.block i hi).trans (i2.block i hi hne)⟩⟩
  · rintro j w1 hv hj ⟨i1, i2⟩ hs hr
    have hO := out_le r (by omega) (r - m) (by omega)
    have hf5 : fac n ≤ 720 := fac_le (by omega)
    have hjO : j * outF r (r - m) ≤ 719 * 120 := Nat.mul_le_mul (by omega) hO
    refine (look2_ok r m n j hv w1 Bo Bl Bb Bf Bt mb (j * outF r (r - m)) vb (ALo r (r - m) n j) h1 h1' h2 h3 hj hr i1 (by omega) (fun x => by have := ALo_le r (r - m) n x _ (Nat.le_refl _) j; omega) (ho.grown i2 (ho.ne hM)) (hl.grown i2 (hl.ne hM)) (hb.grown i2 (hb.ne hM)) (hbr.grown hM i2) (hf.grown i2 (hf.ne hM)) (ht.grown i2 (ht.ne hM))).mono ?_
    rintro e w2 ⟨rfl, m2, gr⟩
    refine ⟨rfl, ⟨by rw [Nat.succ_mul]; exact m2, grown_trans i2 gr⟩, ⟨gr.os, gr.tape, gr.output, gr.size, fun i hi1 hi2 => gr.block i hi2 ?_⟩⟩
    have := hM.lt
    simp; omega
  · rintro e w' ⟨h1, h2, -⟩
    exact ⟨h1, h2⟩
set_option maxHeartbeats 3200000 in
set_option maxRecDepth 20000 in
theorem run (r m n : Nat) (w : World) (h1 : m < r) (h1' : 0 < m) (h2 : r ≤ n) (h3 : n ≤ 5) :
    Calls Try.prog 4 #[.int .i64 r, .int .i64 m, .int .i64 n] w fun e w' => e = .returned (.bool true) ∧ Below w.heap.size w w' := by
  have f1 : decide ((m : Int) < 1) = false := decide_eq_false (by omega)
  have f2 : decide ((r : Int) ≤ (m : Int)) = false := decide_eq_false (by omega)
  have f2' : decide (r ≤ m) = false := decide_eq_false (by omega)
  have f3 : decide ((n : Int) < (r : Int)) = false := decide_eq_false (by omega)
  have f3' : decide (n < r) = false := decide_eq_false (by omega)
  have f4 : decide (5 < (n : Int)) = false := decide_eq_false (by omega)
  have hmm := @run_makeMap Try.prog
  obtain ⟨i3, hi3, hz0, hz1, hz2⟩ := info_parts Try.info3
  go_enter Try.func4, Try.ntmps4
  go_wp2_with fail
  refine (alive_any _).mono ?_
  rintro e w1 ⟨rfl, hb⟩
  have H1 := Lib.hid (((Below.refl w.heap.size w).alloc (Nat.le_refl _) (.cells #[.int .i64 m] 3)).trans (hb.mono (by simp)))
  have HL1 : Hid (C1 w1 w.heap.size (.int .i64 m) 3) := (C1.new w _ _).kept hb (by simp)
  have cl := HL1.out.cell
  have hs1 : w.heap.size < w1.heap.size := HL1.out.lt
  clear hb
  go_wp2_with fail
  obtain ⟨P, hP⟩ : ∃ P, w1.heap.size = P := ⟨_, rfl⟩
  have HBa : Hid (Below w.heap.size w ((w1.alloc (.cells #[.slice none 0 0] 25)).alloc (.cells #[.int .i64 1] 3))) := (H1.out.alloc (Nat.le_of_lt hs1) _).alloc (by simp; omega) _
  have HC7 : Hid (C1 ((w1.alloc (.cells #[.slice none 0 0] 25)).alloc (.cells #[.int .i64 1] 3)) P (.slice none 0 0) 25) := hP ▸ (C1.new w1 _ _).kept ((Below.refl _ _).alloc (Nat.le_refl _) _) (by simp)
  have HC8 : Hid (C1 ((w1.alloc (.cells #[.slice none 0 0] 25)).alloc (.cells #[.int .i64 1] 3)) (P + 1) (.int .i64 1) 3) := by
    have := C1.new (w1.alloc (.cells #[.slice none 0 0] 25)) (.int .i64 1) 3
    rw [← hP]
    show C1 _ _ _ _
    simpa using this
  have HCl : Hid (C1 ((w1.alloc (.cells #[.slice none 0 0] 25)).alloc (.cells #[.int .i64 1] 3)) w.heap.size (.int .i64 m) 3) := HL1.out.kept (((Below.refl _ _).alloc (Nat.le_refl _) _).alloc (by simp) _) hs1
  have HPw : Hid (w.heap.size < P) := by show _ < _; omega
  have HS9 : Hid (P + 2 ≤ ((w1.alloc (.cells #[.slice none 0 0] 25)).alloc (.cells #[.int .i64 1] 3)).heap.size) := by show _ ≤ _; simp; omega
  rw [hP]
  generalize (w1.alloc (.cells #[.slice none 0 0] 25)).alloc (.cells #[.int .i64 1] 3) = wa at *
  clear hP cl hs1
  obtain ⟨d, hd⟩ : ∃ d, r - m = d := ⟨_, rfl⟩
  have HD := Lib.hid hd
  have HOS : Hid (∀ i, outF r (i + 1) = outF r i * (r - i)) := fun i => rfl
  have HOL : Hid (∀ i, i ≤ r → outF r i ≤ 120) := out_le r (by omega)
  have HBS : Hid (∀ i, castL (basesF r (i + 1)) = castL (basesF r i) ++ [((r - i : Nat) : Int)]) := fun i => by
    show _ = _
    unfold basesF; rw [List.range_succ, List.map_append, castL_app]; rfl
  clear hd
  go_loopw [9] (fun kv wr => ∃ i k o : Nat, k + i = r ∧ m ≤ k ∧ kv = .int .i64 k ∧ o ≤ 120 ∧ Hid (o = outF r i) ∧ ∃ vb, Hid (wr.ownsRow (P + 2) 3 1 vb i ((castL (basesF r i)).map (Value.int .i64))) ∧ Hid (C1 wr P vb 25) ∧ Hid (C1 wr (P + 1) (.int .i64 o) 3) ∧ Hid (C1 wr w.heap.size (.int .i64 m) 3) ∧ Hid (Below w.heap.size w wr) ∧ Hid (P + 2 ≤ wr.heap.size)) (fun kv _ => (intOf kv).toNat - m)
  case atStart => exact ⟨0, r, 1, by omega, by omega, rfl, by decide, rfl, _, World.ownsRow_nil _ _ _ _, HC7.out, HC8.out, HCl.out, HBa.out, HS9.out⟩
  case round =>
    clear HC7 HC8 HCl HBa HS9
    obtain ⟨i, k, o, hki, hmk, rfl, ho, HO, vb, HOW, H7, H8, H4, HB, HS⟩ := hrel
    obtain ⟨ab, kb, rfl⟩ := own_slice HOW.out
    have c7 := H7.out.cell
    have c8 := H8.out.cell
    have c4 := H4.out.cell
    have g7 := H7.out.free
    have g8 := H8.out.free
    by_cases hlt : m < k
    · have hos := HOS.out i
      rw [← HO.out, show r - i = k by omega] at hos
      have hol := HOL.out (i + 1) (by omega)
      rw [hos] at hol
      have HOX := Lib.hid hos
      obtain ⟨p, hp⟩ : ∃ p : Nat, o * k = p := ⟨_, rfl⟩
      rw [hp] at hol HOX
      have hpp : (o : Int) * (k : Int) = (p : Int) := by rw [← hp]; simp
      have HBX := HBS.out i
      rw [show r - i = k by omega] at HBX
      have HBX' := Lib.hid HBX
      clear HBX hos hp
      have hs2 := HS.out
      have hk6 : k ≤ 5 := by omega
      have hi6 : i ≤ 5 := by omega
      have hP1 : P + 1 < P + 2 := by omega
      have hP0 : P < P + 2 := by omega
      go_wp2_with (at_builtin; go_must (refine push rfl _ _ 25 rfl (P + 2) 3 i3 (.int .i64 0) 8 Try.underlying25 hi3 hz0 hz1 hz2 rfl _ i ((castL (basesF r i)).map (Value.int .i64)) rfl HOW.out (.int .i64 k) wr.heap.size rfl rfl rfl (by decide) (by omega) hs2 ?_))
      intro v2 w2 ho2 hg2
      have HW2 : Hid (Below w.heap.size w w2) := grown_below hg2 HOW.out HB.out (by have := HPw.out; omega) HB.out.size
      have HOW2 : Hid (w2.ownsRow (P + 2) 3 1 v2 (i + 1) ((castL (basesF r (i + 1))).map (Value.int .i64))) := by rw [HBX'.out, List.map_append]; exact ho2
      have hgb : Below (P + 2) wr w2 := grown_below hg2 HOW.out (Below.refl _ _) (Nat.le_refl _) hs2
      have H72 := Lib.hid (H7.out.kept hgb hP0)
      have H82 := Lib.hid (H8.out.kept hgb hP1)
      have H42 := Lib.hid (H4.out.kept hgb (by have := HPw.out; omega))
      have HS2 : Hid (P + 2 ≤ w2.heap.size) := Nat.le_trans hs2 hgb.size
      obtain ⟨a2, k2, rfl⟩ := own_slice HOW2.out
      clear ho2 hg2 hgb c7 c8 c4 g7 g8
      have c7 := H72.out.cell
      have c8 := H82.out.cell
      have c4 := H42.out.cell
      have g7 := H72.out.free
      have g8 := H82.out.free
      have hpp1 : ¬ P + 1 = P := by omega
      have hpw : ¬ P = w.heap.size := by have := HPw.out; omega
      have hpw1 : ¬ P + 1 = w.heap.size := by have := HPw.out; omega
      go_wp2_with fail
      go_roundw
      case rel => exact ⟨i + 1, k - 1, p, by omega, by omega, by go_num, hol, HOX.out.symm, _, own_store (own_store HOW2.out hP0 _) hP1 _, (H72.out.set _).other hpp1 _, (H82.out.other (Ne.symm hpp1) _).set _, (H42.out.other hpw _).other hpw1 _, (HW2.out.setCell (by have := HPw.out; show _ ≤ P; omega) _).setCell (by have := HPw.out; show _ ≤ P + 1; omega) _, by show _ ≤ _; simpa [World.setCell] using HS2.out⟩
      case measure => simp [intOf]; omega
    · obtain rfl : k = m := by omega
      have hid : i = r - k := by omega
      have HBRd : Hid (Rd wr (.slice ab i kb) (castL (basesF r (r - k)))) := by
        have := Rd.own HOW.out
        rw [← hid]; exact this
      rw [hid] at HO
      rw [HO.out] at H8
      obtain ⟨R, hR⟩ : ∃ R, wr.heap.size = R := ⟨_, rfl⟩
      have HWM : Hid (Below R wr (((wr.alloc (.map #[] 0)).alloc (.cells #[.map (some R)] 23)).alloc (.cells #[.bool true] 4))) := hR ▸ ((((Below.refl _ _).alloc (Nat.le_refl _) _).alloc (by simp) _).alloc (by simp; omega) _)
      have HMM : Hid (MC (((wr.alloc (.map #[] 0)).alloc (.cells #[.map (some R)] 23)).alloc (.cells #[.bool true] 4)) R 0 []) := hR ▸ (MC.made wr).kept (((Below.refl _ _).alloc (Nat.le_refl _) _).alloc (by simp) _) (MC.made wr).lt
      have HCT : Hid (C1 (((wr.alloc (.map #[] 0)).alloc (.cells #[.map (some R)] 23)).alloc (.cells #[.bool true] 4)) (R + 1) (.map (some R)) 23) := by
        have h1 := C1.new (wr.alloc (.map #[] 0)) (.map (some R)) 23
        have h2 := h1.kept ((Below.refl _ _).alloc (Nat.le_refl _) (.cells #[.bool true] 4)) h1.lt
        show C1 _ _ _ _
        rw [← hR] at h2 ⊢
        simpa using h2
      have HCF : Hid (C1 (((wr.alloc (.map #[] 0)).alloc (.cells #[.map (some R)] 23)).alloc (.cells #[.bool true] 4)) (R + 2) (.bool true) 4) := by
        have h1 := C1.new ((wr.alloc (.map #[] 0)).alloc (.cells #[.map (some R)] 23)) (.bool true) 4
        show C1 _ _ _ _
        rw [← hR] at h1 ⊢
        simpa using h1
      have h7l := H7.out.lt
      have h8l := H8.out.lt
      have h4l := H4.out.lt
      rw [hR] at h7l h8l h4l
      have HCK := Lib.hid (chkS_4 n h3 r h2 (r - k) (by omega))
      have HRle : Hid (wr.heap.size ≤ R) := by show _ ≤ _; omega
      have HWs : Hid (w.heap.size ≤ R) := by have := HB.out.size; rw [hR] at this; exact this
      go_wp2_with fail
      clear hR
      refine (rows_small r k n _ (P + 1) w.heap.size P (R + 1 + 1) (R + 1) R _ h1 h1' h2 h3 HMM.out (H8.out.kept HWM.out h8l) (H4.out.kept HWM.out h4l) (H7.out.kept HWM.out h7l) (HBRd.out.below HWM.out HRle.out) HCF.out HCT.out).mono ?_
      rintro e w5 ⟨rfl, hm5, hg5⟩
      have HB5 : Hid (Below w.heap.size w w5) := (HB.out.trans (HWM.out.mono HWs.out)).grown hg5 (by have := HB.out.size; have := HWM.out.size; omega) (fun k hk => by cases hk; exact HWs.out)
      have HCT5 := Lib.hid (HCT.out.grown hg5 (HCT.out.ne HMM.out))
      have HCF5 := Lib.hid (HCF.out.grown hg5 (HCF.out.ne HMM.out))
      have HC45 := Lib.hid ((H4.out.kept HWM.out h4l).grown hg5 ((H4.out.kept HWM.out h4l).ne HMM.out))
      obtain ⟨D, hD1, hD2, hD3, hD4, hD5⟩ := hm5
      have HD1 := Lib.hid hD1
      have HD3 := Lib.hid hD3
      have HD4 := Lib.hid hD4
      have HD5 := Lib.hid hD5
      have HRL : Hid (R + 2 < w5.heap.size) := HCF5.out.lt
      have k2 := HCT5.out.cell
      obtain ⟨N, hN⟩ : ∃ N, fac n * outF r (r - k) = N := ⟨_, rfl⟩
      rw [hN] at HD1
      have HWS : Hid (∀ i, i ≤ n → wantF n i ≤ 20) := want_le n (by omega)
      have HWN : Hid (∀ i, wantF n (i + 1) = wantF n i * (n - i) / (i + 1)) := fun i => rfl
      clear hg5 hD1 hD2 hD3 hD4 hD5 hN h7l h8l h4l c7 c8 c4 g7 g8
      obtain ⟨V, hV⟩ : ∃ V, ((ALo r (r - k) n (fac n)).getD 0 (0, 0)).2 = V := ⟨_, rfl⟩
      have HV := Lib.hid hV
      clear hV
      go_wp2_with (at_range; go_must (refine wpList_range_own _ rfl _ 23 rfl 3 3 key3 Try.underlying23 _ R N D rfl HD1.out ?_))
      intro w6 hrg hg6 hs6
      have HRG := Lib.hid hrg
      have HB6 := Lib.hid (HB5.out.grown hg6 HB5.out.size (fun k hk => by cases hk))
      have HCT6 : Hid (C1 w6 (R + 1) (.map (some R)) 23) := (hg6.block _ HCT5.out.lt (by simp)).trans HCT5.out
      have HCF6 : Hid (C1 w6 (R + 2) (.bool true) 4) := (hg6.block _ HCF5.out.lt (by simp)).trans HCF5.out
      have HC46 : Hid (C1 w6 w.heap.size (.int .i64 k) 3) := (hg6.block _ HC45.out.lt (by simp)).trans HC45.out
      obtain ⟨T, hT⟩ : ∃ T, w5.heap.size = T := ⟨_, rfl⟩
      rw [hT] at HRG ⊢
      have HTl : Hid (R + 2 < T) := by have := HRL.out; show _ < _; omega
      have HTw : Hid (w.heap.size < T) := by have := HC45.out.lt; show _ < _; omega
      clear hrg hg6 hs6 k2 hT
      go_wp2_with fail
      go_loopw [15, 13] (fun _ ov wr => ∃ left cnt, ∃ one : Int, ov = .int .i64 one ∧ Hid (one = -1 ∨ one = V) ∧ Hid (wr.ranges Try.prog 3 (plainElem Try.prog 3) R T N D left cnt) ∧ Hid (Below w.heap.size w wr) ∧ Hid (C1 wr (R + 1) (.map (some R)) 23) ∧ Hid (C1 wr (R + 2) (.bool true) 4) ∧ Hid (C1 wr w.heap.size (.int .i64 k) 3)) (fun _ _ wr => wr.rangeLeft R T)
      case atStart => exact ⟨_, _, -1, rfl, .inl rfl, HRG.out, HB6.out, HCT6.out, HCF6.out, HC46.out⟩
      case round =>
        clear HRG HB6 HCT6 HCF6 HC46
        obtain ⟨left, cnt, one, rfl, HONE, HRG, HBE, HCT6, HCF6, HC46⟩ := hrel
        have c3 := HCT6.out.cell
        have c4 := HC46.out.cell
        have c5 := HCF6.out.cell
        go_wp2_with (at_next; go_must (refine wpList_next_ranges_ii _ rfl _ rfl 3 3 .i64 .i64 key3 Try.underlying3 Try.underlying3 R T N _ _ _ rfl HRG.out ?_ ?_))
        · intro hc0 hl0
          have HOW2 := Lib.hid HRG.out.owns
          go_wp2_with fail
          go_loop [69, 16] (fun iv xv => ∃ i x : Nat, i ≤ k ∧ iv = .int .i64 i ∧ xv = .int .i64 x ∧ x ≤ 20 ∧ Hid (x = wantF n i)) (fun iv _ => k - (intOf iv).toNat)
          case atStart => exact ⟨0, 1, by omega, rfl, rfl, by decide, rfl⟩
          case round =>
            obtain ⟨i, x, hi, rfl, rfl, hx, HX⟩ := hrel
            by_cases hil : i < k
            · have hw := HWN.out i
              rw [← HX.out] at hw
              have hw2 := HWS.out (i + 1) (by omega)
              rw [hw] at hw2
              obtain ⟨y, hy⟩ : ∃ y : Nat, x * (n - i) / (i + 1) = y := ⟨_, rfl⟩
              rw [hy] at hw hw2
              have HW := Lib.hid hw
              obtain ⟨p, hp⟩ : ∃ p : Nat, x * (n - i) = p := ⟨_, rfl⟩
              have hp720 : p ≤ 120 := by rw [← hp]; exact Nat.le_trans (Nat.mul_le_mul hx (show n - i ≤ 6 by omega)) (by decide)
              have hpp : (x : Int) * ((n : Int) - (i : Int)) = (p : Int) := by rw [← hp, ← Int.natCast_sub (by omega)]; simp
              rw [hp] at hy
              have hyy : (p : Int) / ((i : Int) + 1) = (y : Int) := by rw [← hy]; simp
              have hii : (i : Int) < (k : Int) := by omega
              clear hw hp hy
              go_wp2_with fail
              go_round
              case rel => exact ⟨i + 1, y, by omega, by go_num, by first | rfl | go_num, hw2, HW.out.symm⟩
              case measure => simp [intOf]; omega
            · obtain rfl : i = k := by omega
              have q9 : ((Maps.size D : Nat) : Int) = (x : Int) := by
                rw [HD5.out]
                have := HCK.out
                unfold chkS at this
                simp only [Bool.and_eq_true, decide_eq_true_eq] at this
                rw [this.2, HX.out, show r - (r - i) = i by omega]
              have hln := HOW2.out.len Try.underlying23 3
              rw [q9] at hln
              clear q9
              go_wp2_with fail
              go_ret
              exact ⟨by simp, HBE.out⟩
        · intro z c w7 cnt7 hwx hwc hlx hat hrg7 hlt7 hg7 hs7 hen
          have hcl : c = lk (ALo r (r - k) n (fac n)) z := by
            have := HD3.out z
            rw [hat] at this
            simpa using this
          have hhk : hk (ALo r (r - k) n (fac n)) z = true := by
            rw [← HD4.out]
            exact has_true_of_atKey hat
          have hck : lk (ALo r (r - k) n (fac n)) z = V := by
            have := HCK.out
            unfold chkS at this
            simp only [Bool.and_eq_true] at this
            have := lk_all (P := fun c => c == ((ALo r (r - k) n (fac n)).getD 0 (0, 0)).2) _ z this.1 hhk
            simp only [beq_iff_eq] at this
            rw [this, HV.out]
          rw [hck] at hcl
          subst hcl
          have HR7 := Lib.hid hrg7
          have HB7 := Lib.hid (HBE.out.grown hg7 HBE.out.size (fun k hk => by cases hk; exact Nat.le_of_lt HTw.out))
          have HCT7 := Lib.hid (HCT6.out.grown hg7 (by have := HTl.out; omega))
          have HCF7 := Lib.hid (HCF6.out.grown hg7 (by have := HTl.out; omega))
          have HC47 := Lib.hid (HC46.out.grown hg7 (by have := HTw.out; omega))
          have HLT : Hid (cnt7 < cnt) := hlt7
          clear hlx hat hrg7 hlt7 hg7 hs7 hck hhk c3 c4 c5
          have hone := HONE.out
          clear HONE
          rcases hone with rfl | rfl
          all_goals
            go_wp2_with fail
            go_roundw
            case rel => exact ⟨_, _, V, rfl, .inr rfl, HR7.out, HB7.out, HCT7.out, HCF7.out, HC47.out⟩
            case measure => rw [HR7.out.left_eq, HRG.out.left_eq]; exact HLT.out
theorem walk (a0 a1 a2 : Int) (w : World) (w0 : (Lit.int .i64 a0).wf = true) (w1 : (Lit.int .i64 a1).wf = true) (w2 : (Lit.int .i64 a2).wf = true) :
    Calls Try.prog 4 #[.int .i64 a0, .int .i64 a1, .int .i64 a2] w fun e w' => e = .returned (.bool true) ∧ Below w.heap.size w w' := by
  by_cases k1 : 1 ≤ a1 ∧ a1 < a0 ∧ a0 ≤ a2 ∧ a2 ≤ 5
  · obtain ⟨r, rfl⟩ : ∃ r : Nat, a0 = r := ⟨a0.toNat, by omega⟩
    obtain ⟨m, rfl⟩ : ∃ r : Nat, a1 = r := ⟨a1.toNat, by omega⟩
    obtain ⟨n, rfl⟩ : ∃ r : Nat, a2 = r := ⟨a2.toNat, by omega⟩
    exact run r m n w (by omega) (by omega) (by omega) (by omega)
  · have hx : decide (a1 < 1) = true ∨ (decide (a1 < 1) = false ∧ decide (a0 ≤ a1) = true) ∨ (decide (a1 < 1) = false ∧ decide (a0 ≤ a1) = false ∧ decide (a2 < a0) = true) ∨ (decide (a1 < 1) = false ∧ decide (a0 ≤ a1) = false ∧ decide (a2 < a0) = false ∧ decide (5 < a2) = true) := by
      by_cases c1 : a1 < 1
      · exact .inl (decide_eq_true c1)
      · by_cases c2 : a0 ≤ a1
        · exact .inr (.inl ⟨decide_eq_false c1, decide_eq_true c2⟩)
        · by_cases c3 : a2 < a0
          · exact .inr (.inr (.inl ⟨decide_eq_false c1, decide_eq_false c2, decide_eq_true c3⟩))
          · exact .inr (.inr (.inr ⟨decide_eq_false c1, decide_eq_false c2, decide_eq_false c3, decide_eq_true (by omega)⟩))
    clear k1 w0 w1 w2
    rcases hx with f1 | ⟨f1, f2⟩ | ⟨f1, f2, f3⟩ | ⟨f1, f2, f3, f4⟩
    all_goals
      go_enter Try.func4, Try.ntmps4
      go_wp2_with fail
      refine (alive_any _).mono ?_
      rintro e w1 ⟨rfl, hb⟩
      have H1 := Lib.hid (((Below.refl w.heap.size w).alloc (Nat.le_refl _) (.cells #[.int .i64 a1] 3)).trans (hb.mono (by simp)))
      have HL1 : Hid (C1 w1 w.heap.size (.int .i64 a1) 3) := (C1.new w _ _).kept hb (by simp)
      have cl := HL1.out.cell
      clear hb
      go_wp2_with fail
      go_ret
      exact ⟨rfl, H1.out⟩
end Go.Proofs.Ytimknmofcnhbpaa.poolSmaller
