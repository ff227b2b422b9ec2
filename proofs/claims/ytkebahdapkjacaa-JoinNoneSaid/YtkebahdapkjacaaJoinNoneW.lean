/- The walk of JoinNone. No condition. -/
import Derived.Test.YtkebahdapkjacaaAl
import Derived.Test.YtkebahdapkjacaaConcI
import Derived.Lib.SmallJoins
set_option linter.unusedSimpArgs false
set_option linter.unusedVariables false
namespace Go.Proofs.Ytkebahdapkjacaa.joinNone
open Go.RowKit Go.Proofs.Ytkebahdapkjacaa
open ChangeShapes WideShapes in
theorem open_pool {H : Type} {enc : TypeId × Value → H} {W : World} {base : Nat} {v : Value} {d : DataW H} {p : List MemPlace} (hval : Value.okWide Try.prog W .any base 28 v)
    (h : DataW.Trod enc Try.prog W 0 (fun _ => true) true 28 v d p) (lt : ∀ x ∈ p, x.block < W.heap.size) :
    ∃ x : Int × Int × Option Addr × Nat × Nat × List Int, v = .agg #[.int .i64 x.1, .int .i64 x.2.1, .slice x.2.2.1 x.2.2.2.1 x.2.2.2.2.1] ∧ (Rd W (.slice x.2.2.1 x.2.2.2.1 x.2.2.2.2.1) x.2.2.2.2.2 ∧ (x.2.2.1 = none → x.2.2.2.1 = 0 ∧ x.2.2.2.2.1 = 0) ∧ -9223372036854775808 ≤ x.1 ∧ x.1 ≤ 9223372036854775807 ∧ -9223372036854775808 ≤ x.2.1 ∧ x.2.1 ≤ 9223372036854775807) := by
  obtain ⟨v0, v1, v2, y0, y1, y2, n, rfl, _, _, t0, t1, t2⟩ := Go.Joins.open_agg3 Try.underlying28 (by kernel_rfl) (by kernel_rfl) hval h
  obtain ⟨a0, e0, _, w0⟩ := DataW.trod_int Try.underlying3 t0
  obtain ⟨a1, e1, _, w1⟩ := DataW.trod_int Try.underlying3 t1
  simp at e0 e1
  subst e0 e1
  obtain ⟨b1, b2⟩ := bounds_i64 w0
  obtain ⟨b3, b4⟩ := bounds_i64 w1
  rcases open_ints Try.underlying26 Try.underlying3 (by kernel_rfl) t2 with ⟨hcs, _⟩ | ⟨x, l, c, zs, hcs, _, hl, hm, hz, hx, hcell, hwz⟩
  · simp at hcs
    subst hcs
    exact ⟨(a0, a1, none, 0, 0, []), rfl, Rd.nil W, fun _ => ⟨rfl, rfl⟩, b1, b2, b3, b4⟩
  · simp at hcs
    subst hcs
    have hr : IsRow .i64 W (some x) l c zs := .inr ⟨x, rfl, hl, hm, by simpa using hz, hcell, hwz⟩
    exact ⟨(a0, a1, some x, l, c, zs.take l), rfl, hr.rd.1, (fun h => by cases h), b1, b2, b3, b4⟩
set_option maxHeartbeats 3200000 in
set_option maxRecDepth 20000 in
theorem run (ra ca rb cb : Int) (aa ab aw ao : Option Addr) (na nb nw no ka kb kw ko : Nat) (la lb wh wo : List Int) (w : World) (h1 : Rd w (.slice aa na ka) la) (h2 : Rd w (.slice ab nb kb) lb) (h3 : Rd w (.slice aw nw kw) wh) (h4 : Rd w (.slice ao no ko) wo) (hn1 : aa = none → na = 0 ∧ ka = 0) (hn2 : ab = none → nb = 0 ∧ kb = 0) :
    Calls Try.prog 5 #[.agg #[.int .i64 ra, .int .i64 ca, .slice aa na ka], .agg #[.int .i64 rb, .int .i64 cb, .slice ab nb kb], .slice aw nw kw, .slice ao no ko] w fun e w' => e = .returned (.bool true) ∧ Below w.heap.size w w' := by
  have hl1 : la.length = na := by obtain ⟨_, _, he, -⟩ := h1.slice; cases he; rfl
  have hl2 : lb.length = nb := by obtain ⟨_, _, he, -⟩ := h2.slice; cases he; rfl
  have HL1 := Lib.hid h1
  have HL2 := Lib.hid h2
  have HL3 := Lib.hid h3
  have HL4 := Lib.hid h4
  have HN1 := Lib.hid hn1
  have HN2 := Lib.hid hn2
  have HLA := Lib.hid hl1
  have HLB := Lib.hid hl2
  clear h1 h2 h3 h4 hn1 hn2 hl1 hl2
  have HB0 : Hid (Below w.heap.size w ((w.alloc (.cells #[.int .i64 ra, .int .i64 ca, .slice aa na ka] 28)).alloc (.cells #[.int .i64 rb, .int .i64 cb, .slice ab nb kb] 28))) := ((Below.refl _ _).alloc (Nat.le_refl _) _).alloc (by simp) _
  have HA0 : Hid (BX ((w.alloc (.cells #[.int .i64 ra, .int .i64 ca, .slice aa na ka] 28)).alloc (.cells #[.int .i64 rb, .int .i64 cb, .slice ab nb kb] 28)) w.heap.size ra ca (.slice aa na ka)) := (BX.new w _ _ _).below ((Below.refl _ _).alloc (Nat.le_refl _) _) (BX.new w _ _ _).lt
  have HC0 : Hid (BX ((w.alloc (.cells #[.int .i64 ra, .int .i64 ca, .slice aa na ka] 28)).alloc (.cells #[.int .i64 rb, .int .i64 cb, .slice ab nb kb] 28)) (w.heap.size + 1) rb cb (.slice ab nb kb)) := by
    have := BX.new (w.alloc (.cells #[.int .i64 ra, .int .i64 ca, .slice aa na ka] 28)) rb cb (.slice ab nb kb)
    show BX _ _ _ _ _
    simpa using this
  go_enter Try.func5, Try.ntmps5
  go_wp2_with fail
  generalize (w.alloc (.cells #[.int .i64 ra, .int .i64 ca, .slice aa na ka] 28)).alloc (.cells #[.int .i64 rb, .int .i64 cb, .slice ab nb kb] 28) = wz at *
  refine (alive_any _).mono ?_
  rintro e w1 ⟨rfl, hb⟩
  have HB1 := Lib.hid (HB0.out.trans (hb.mono HB0.out.size))
  have HA1 := Lib.hid (HA0.out.below hb HA0.out.lt)
  have HC1 := Lib.hid (HC0.out.below hb HC0.out.lt)
  clear hb
  have c0 := HA1.out.c0
  have c1 := HA1.out.c1
  have c2 := HA1.out.c2
  have d0 := HC1.out.c0
  have d1 := HC1.out.c1
  have d2 := HC1.out.c2
  go_wp2_with fail
  refine (pools_any ra ca rb cb aa ab aw ao na nb nw no ka kb kw ko la lb wh wo _ (HL1.out.below HB1.out (Nat.le_refl _)) (HL2.out.below HB1.out (Nat.le_refl _)) (HL3.out.below HB1.out (Nat.le_refl _)) (HL4.out.below HB1.out (Nat.le_refl _))).mono ?_
  rintro e w2 ⟨hb2, ⟨h0, t, v', ht, rfl, hr⟩ | ⟨h0, rfl⟩⟩
  · have HK := Lib.hid (prun_kept (s := st0 ca cb la lb) rfl _ _ ht)
    have hfm : RightP ra ca na ∧ RightP rb cb nb ∧ ra = rb := by
      unfold pErr at h0
      rw [HLA.out, HLB.out] at h0
      rcases Decidable.em (RightP ra ca na ∧ RightP rb cb nb ∧ ra = rb) with h | h
      · exact h
      · rw [if_pos h] at h0; cases h0
    have hfull : ca + cb ≤ 1099511627776 := by
      unfold pErr at h0
      rw [HLA.out, HLB.out, if_neg (fun h => h hfm)] at h0
      rcases Decidable.em (1099511627776 - cb < ca) with h | h
      · rw [if_pos h] at h0; cases h0
      · omega
    obtain ⟨⟨r1, r2, r3, r4, r5⟩, ⟨-, -, s3, s4, s5⟩, rfl⟩ := hfm
    obtain ⟨a, k, hv, hk1, hk2⟩ := hr.slice
    have HB2 := Lib.hid (HB1.out.trans (hb2.mono HB1.out.size))
    have HA2 := Lib.hid (HA1.out.below hb2 HA1.out.lt)
    have HC2 := Lib.hid (HC1.out.below hb2 HC1.out.lt)
    have HTL : Hid (((t.o.length : Nat) : Int) = min ra (ca + cb)) := by
      show _ = _
      rw [HK.out.len]; unfold pN; omega
    have HFT : Hid (Fits t.o (la ++ lb)) := fun y => by
      have := HK.out.cnt y
      rw [List.count_append]
      show _ ≤ la.count y + lb.count y
      have e : (st0 ca cb la lb).h0.count y + (st0 ca cb la lb).h1.count y = la.count y + lb.count y := rfl
      omega
    have hna : na ≤ 400 := by omega
    have hnb : nb ≤ 400 := by omega
    have HNB : Hid (cb = 0 → na = t.o.length ∧ nb = 0) := fun h => by have := HTL.out; omega
    subst hv
    generalize t.o = H at *
    have HR2 := Lib.hid hr
    clear hb2 ht h0 hr HK
    generalize hm : H.length = m at *
    have HM := Lib.hid hm
    clear hm r5 s5
    obtain ⟨wp, hwp⟩ : ∃ wp, w2.alloc (.cells #[.int .i64 ra, .int .i64 (ca + cb), .slice a m k] 28) = wp := ⟨_, rfl⟩
    have kp : Below w2.heap.size w2 wp := hwp ▸ (Below.refl _ _).alloc (Nat.le_refl _) _
    have HBp : Hid (Below w.heap.size w wp) := HB2.out.trans (kp.mono HB2.out.size)
    have HPp : Hid (BX wp w2.heap.size ra (ca + cb) (.slice a m k)) := hwp ▸ BX.new w2 _ _ _
    have HAp := Lib.hid (HA2.out.below kp HA2.out.lt)
    have HCp := Lib.hid (HC2.out.below kp HC2.out.lt)
    have HRp := Lib.hid (HR2.out.below kp (Nat.le_refl _))
    clear kp c0 c1 c2 d0 d1 d2
    have c0 := HAp.out.c0
    have c1 := HAp.out.c1
    have c2 := HAp.out.c2
    have d0 := HCp.out.c0
    have d1 := HCp.out.c1
    have d2 := HCp.out.c2
    go_wp2_with fail
    have hsl : w2.heap.size < wp.heap.size := HPp.out.lt
    have HQB : Hid (Below wp.heap.size wp (wp.alloc (.cells #[.slice aa na ka, .slice ab nb kb] 26))) := (Below.refl _ _).alloc (Nat.le_refl _) _
    have hnew := heap_alloc_new wp (.cells #[.slice aa na ka, .slice ab nb kb] 26)
    have k0 := cell_of_row _ _ 0 _ _ _ hnew
    have k1 := cell_of_row _ _ 1 _ _ _ hnew
    simp at k0 k1
    clear hwp
    refine (concati_any wp.heap.size na ka nb kb aa ab la lb _ ((HL1.out.below HBp.out (Nat.le_refl _)).below HQB.out (Nat.le_refl _)) ((HL2.out.below HBp.out (Nat.le_refl _)).below HQB.out (Nat.le_refl _)) HN1.out HN2.out (by rw [cell_of_row _ _ 0 _ _ _ hnew]; rfl) (by rw [cell_of_row _ _ 1 _ _ _ hnew]; rfl) (by simp) (by omega)).mono ?_
    rintro e w3 ⟨hb3, v3, rfl, ho3⟩
    have HO3 : Hid (w3.ownsRow wp.heap.size 3 1 v3 (na + nb) ((la ++ lb).map (Value.int .i64))) := own_base ho3 (by simp)
    have HB3 : Hid (Below wp.heap.size wp w3) := HQB.out.trans (hb3.mono (by simp))
    clear hb3 ho3 hnew k0 k1
    have HP3 := Lib.hid (HPp.out.below HB3.out hsl)
    clear c0 c1 c2 d0 d1 d2
    have x2 := HP3.out.c2
    go_wp2_with fail
    go_loopw [40, 11] (fun iv lv wr => ∃ i q : Nat, i ≤ m ∧ q + i = na + nb ∧ iv = .int .i64 i ∧ ∃ L, Hid (wr.ownsRow wp.heap.size 3 1 lv q (L.map (Value.int .i64))) ∧ Hid (Fits (H.drop i) L) ∧ Hid (Below wp.heap.size wp wr)) (fun iv _ _ => m - (intOf iv).toNat)
    case atStart => exact ⟨0, na + nb, Nat.zero_le _, rfl, rfl, la ++ lb, HO3.out, HFT.out, HB3.out⟩
    case round =>
      clear HB3 HP3 HO3 x2
      obtain ⟨i, q, him, hqi, rfl, L, HO, HF, HBr⟩ := hrel
      have HB := Lib.hid (HBp.out.trans (HBr.out.mono HBp.out.size))
      have HX := Lib.hid (HPp.out.below HBr.out hsl)
      have HR := Lib.hid (HRp.out.below HBr.out (Nat.le_refl _))
      by_cases hlt : i < m
      · obtain ⟨bh, oh, rfl, hbh, ch⟩ := HR.out.at hlt
        have hLq : L.length = q := by have := HO.out.1; simpa using this
        have hin : H.getD i 0 ∈ L := HF.out.mem (by
          have hd : i < H.length := by rw [HM.out]; exact hlt
          rw [List.drop_eq_getElem_cons hd, List.getD_eq_getElem?_getD, List.getElem?_eq_getElem hd]; exact List.mem_cons_self)
        obtain ⟨j, hj1, hj2, hj3⟩ := index_in hin
        have HJ1 := Lib.hid hj1
        have HF' : Hid (Fits (H.drop (i + 1)) (L.eraseIdx j)) := HF.out.step (by rw [HM.out]; exact hlt) hj2 hj3
        rw [hLq] at hj2
        obtain ⟨g, cg, rfl, hg1, hg2, hg3, hg4, -⟩ := own_open HO.out (by omega : 0 < q)
        have HRL := Lib.hid (Rd.own HO.out)
        clear hj1 hj3 hin hLq
        generalize H.getD i 0 = x at *
        unfold maxLen at hg2
        go_wp2_with fail
        refine (index_any _ _ _ L x _ HRL.out).mono ?_
        rintro e w4 ⟨rfl, rfl⟩
        rw [HJ1.out]
        go_wp2_with fail
        refine (del_own HO.out j hj2 _ rfl).mono ?_
        rintro e w5 ⟨rfl, ho5, hg5⟩
        have HO5 := Lib.hid ho5
        have HB5 := Lib.hid (HBr.out.grown hg5 HBr.out.size (fun k hk => by cases hk; exact hg3))
        clear hg5 ho5
        go_wp2_with fail
        go_roundw
        case rel => exact ⟨i + 1, q - 1, by omega, by omega, by go_num, _, HO5.out, HF'.out, HB5.out⟩
        case measure => simp [intOf]; omega
      · obtain rfl : i = m := by omega
        have HAx := Lib.hid (HAp.out.below HBr.out HAp.out.lt)
        have HCx := Lib.hid (HCp.out.below HBr.out HCp.out.lt)
        have c0 := HAx.out.c0
        have c1 := HAx.out.c1
        have d1 := HCx.out.c1
        have x0 := HX.out.c0
        have x1 := HX.out.c1
        have x2 := HX.out.c2
        have hmin : min ra (ca + cb) = (i : Int) := HTL.out.symm
        obtain ⟨al, kl, rfl⟩ := own_slice HO.out
        by_cases hcb : 0 < cb
        · have p1 : decide (0 < cb) = true := decide_eq_true hcb
          go_wp2_with fail
          go_ret
          exact ⟨by simp, HB.out⟩
        · have p1 : decide (0 < cb) = false := decide_eq_false hcb
          obtain rfl : q = 0 := by have := HNB.out (by omega); omega
          go_wp2_with fail
          go_ret
          exact ⟨by simp, HB.out⟩
  · have HB2 := Lib.hid (HB1.out.trans (hb2.mono HB1.out.size))
    have q1 : ((pErr ra ca rb cb la lb wh wo) == 0) = false := by rw [beq_eq_false_iff_ne]; exact h0
    have q2 : ((pErr ra ca rb cb la lb wh wo) != 0) = true := by rw [bne_iff_ne]; exact h0
    clear h0 hb2
    generalize pErr ra ca rb cb la lb wh wo = ec at *
    go_wp2_with fail
    go_ret
    exact ⟨rfl, HB2.out.alloc HB2.out.size _⟩
theorem walk (x0 x1 : Int × Int × Option Addr × Nat × Nat × List Int) (a2 : Option Addr) (len2 cap2 : Nat) (z2 : List Int) (a3 : Option Addr) (len3 cap3 : Nat) (z3 : List Int) (w : World)
    (w0 : Rd w (.slice x0.2.2.1 x0.2.2.2.1 x0.2.2.2.2.1) x0.2.2.2.2.2 ∧ (x0.2.2.1 = none → x0.2.2.2.1 = 0 ∧ x0.2.2.2.2.1 = 0) ∧ -9223372036854775808 ≤ x0.1 ∧ x0.1 ≤ 9223372036854775807 ∧ -9223372036854775808 ≤ x0.2.1 ∧ x0.2.1 ≤ 9223372036854775807)
    (w1 : Rd w (.slice x1.2.2.1 x1.2.2.2.1 x1.2.2.2.2.1) x1.2.2.2.2.2 ∧ (x1.2.2.1 = none → x1.2.2.2.1 = 0 ∧ x1.2.2.2.2.1 = 0) ∧ -9223372036854775808 ≤ x1.1 ∧ x1.1 ≤ 9223372036854775807 ∧ -9223372036854775808 ≤ x1.2.1 ∧ x1.2.1 ≤ 9223372036854775807)
    (w2 : IsRow .i64 w a2 len2 cap2 z2) (w3 : IsRow .i64 w a3 len3 cap3 z3) :
    Calls Try.prog 5 #[.agg #[.int .i64 x0.1, .int .i64 x0.2.1, .slice x0.2.2.1 x0.2.2.2.1 x0.2.2.2.2.1], .agg #[.int .i64 x1.1, .int .i64 x1.2.1, .slice x1.2.2.1 x1.2.2.2.1 x1.2.2.2.2.1], .slice a2 len2 cap2, .slice a3 len3 cap3] w fun e w' => e = .returned (.bool true) ∧ Below w.heap.size w w' :=
  run _ _ _ _ _ _ _ _ _ _ _ _ _ _ _ _ _ _ _ _ w w0.1 w1.1 w2.rd.1 w3.rd.1 w0.2.1 w1.2.1
end Go.Proofs.Ytkebahdapkjacaa.joinNone
