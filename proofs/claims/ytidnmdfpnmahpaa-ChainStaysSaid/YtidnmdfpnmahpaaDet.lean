/- chain.det: what it answers. Condition: at most 4 rows, of small numbers. -/
import Derived.Test.YtidnmdfpnmahpaaStep
import Derived.Test.YtidnmdfpnmahpaaDetL
import Derived.Test.YtidnmdfpnmahpaaSum
import Derived.Deep.DeepCutAuto
import Derived.Deep.CutRange
set_option linter.unusedSimpArgs false
set_option linter.unusedVariables false
set_option maxRecDepth 20000
namespace Go.Proofs.Ytidnmdfpnmahpaa
open Go.RowKit
theorem det_zero (a : Option Addr) (c : Nat) (M : List (List Int)) (w : World) :
    Calls Try.prog 20 #[.slice a 0 c] w fun e w' => e = .returned (.int .i64 (detL 0 M)) ∧ Below w.heap.size w w' := by
  go_enter Try.func20, Try.ntmps20
  go_wp2_with fail
  go_ret
  exact ⟨rfl, Below.refl _ _⟩
set_option maxHeartbeats 3200000 in
set_option maxRecDepth 20000 in
theorem det_succ (k : Nat) (hk : k ≤ 3) (IH : ∀ (a : Option Addr) (c : Nat) (M : List (List Int)) (w : World), RdM w (.slice a k c) M → Sq k M → Calls Try.prog 20 #[.slice a k c] w fun e w' => e = .returned (.int .i64 (detL k M)) ∧ Below w.heap.size w w')
    (a : Option Addr) (K c : Nat) (hK : K = k + 1) (M : List (List Int)) (w : World) (h : RdM w (.slice a K c) M) (hq : Sq K M) :
    Calls Try.prog 20 #[.slice a K c] w fun e w' => e = .returned (.int .i64 (detL K M)) ∧ Below w.heap.size w w' := by
  obtain ⟨i3, hi3, hz0, hz1, hz2⟩ := info_parts Try.info3t
  obtain ⟨hl, hc1, hc2⟩ := h.lenEq
  have hK1 : 1 ≤ K := by omega
  have hK4 : K ≤ 4 := by omega
  have HK := Lib.hid hK
  have HIH := Lib.hid IH
  have HM := Lib.hid h
  have HL := Lib.hid hl
  obtain ⟨b, off, a0, c0, rfl, hb, cr, hr⟩ := h.row (i := 0) (by omega)
  have hr0 := hq.2 (M.getD 0 []) (getD_mem M 0 [] (by omega))
  have HDE : Hid (detL K M = accD (fun c => detL k (minorL M.tail c)) (M.getD 0 []) K) := by show _ = _; rw [hK]; rfl
  have HAB : Hid (∀ c, c ≤ K → -98415000 ≤ accD (fun c => detL k (minorL M.tail c)) (M.getD 0 []) c ∧ accD (fun c => detL k (minorL M.tail c)) (M.getD 0 []) c ≤ 98415000) := fun c hc => acc_bd hk (by rw [hK] at hq; exact hq) c (by omega)
  have HAS : Hid (∀ c, accD (fun c => detL k (minorL M.tail c)) (M.getD 0 []) (c + 1) = accD (fun c => detL k (minorL M.tail c)) (M.getD 0 []) c + sgn c * (M.getD 0 []).getD c 0 * detL k (minorL M.tail c)) := fun c => rfl
  have HMI : Hid (∀ c, c < K → Sq k (minorL M.tail c)) := fun c hc => by rw [hK] at hq; exact hq.minor c (by omega)
  have HRW : Hid (∀ i, i < K → (M.getD i []).length = K) := fun i hi => (hq.2 _ (getD_mem M i [] (by omega))).1
  have HMT : Hid (∀ j, j < k → M.tail.getD j [] = M.getD (j + 1) []) := fun j hj => by show _ = _; rw [List.getD_eq_getElem?_getD, List.getD_eq_getElem?_getD, List.getElem?_tail]
  have HTL : Hid (M.tail.length = k) := by show _ = _; rw [List.length_tail, hl, hK]; rfl
  obtain ⟨r, hre⟩ : ∃ r, M.getD 0 [] = r := ⟨_, rfl⟩
  rw [hre] at cr hr hr0 HDE HAB HAS
  obtain ⟨hrl, hrx⟩ := hr0
  rw [hrl] at cr hr
  have HRX : Hid (∀ i, i < K → -45 ≤ r.getD i 0 ∧ r.getD i 0 ≤ 45) := fun i hi => hrx _ (getD_mem r i 0 (by omega))
  have HRr := Lib.hid hr
  have hb1 : b < w.heap.size := hb
  have d0 : ((K : Int) == 0) = false := by rw [beq_eq_false_iff_ne]; omega
  have hK0 : (0 : Int) < (K : Int) := by omega
  clear h hl hK hq hre hr hrl hrx IH
  rw [Nat.add_zero] at cr
  go_enter Try.func20, Try.ntmps20
  go_wp2_with fail
  go_loopw [17, 3, 4] (fun cv dv sv wr => ∃ q : Nat, q ≤ K ∧ cv = .int .i64 q ∧ dv = .int .i64 (accD (fun c => detL k (minorL M.tail c)) r q) ∧ sv = .int .i64 (sgn q) ∧ Hid (Below w.heap.size w wr)) (fun cv _ _ _ => K - (intOf cv).toNat)
  case atStart => exact ⟨0, Nat.zero_le _, rfl, rfl, rfl, Below.refl _ _⟩
  case round =>
    obtain ⟨q, hq, rfl, rfl, rfl, HB⟩ := hrel
    by_cases hql : q < K
    · have hqI : (q : Int) < (K : Int) := by omega
      obtain ⟨b2, off2, rfl, hb2, hcc⟩ := HRr.out.at (by omega)
      have cx := (World.cell?_of_block (HB.out.block b2 hb2)).trans (hcc q hql)
      obtain ⟨x1, x2⟩ := HRX.out q hql
      obtain ⟨d1, d2⟩ := HAB.out q hq
      obtain ⟨e1, e2⟩ := HAB.out (q + 1) (by omega)
      have has := HAS.out q
      have hsg := sgn_succ q
      have hsc := sgn_cases q
      have HASq := Lib.hid has
      have HSG := Lib.hid hsg
      rw [has] at e1 e2
      obtain ⟨t1, t2⟩ := detL_bd k _ (HMI.out q hql)
      have hbd := bdD_le k (by omega)
      clear has hsg hcc
      obtain ⟨D, hD⟩ : ∃ D, detL k (minorL M.tail q) = D := ⟨_, rfl⟩
      rw [hD] at HASq e1 e2 t1 t2
      have HDD := Lib.hid hD
      have hDb : -98415000 ≤ D ∧ D ≤ 98415000 := by omega
      clear hD t1 t2 hbd
      generalize accD (fun c => detL k (minorL M.tail c)) r q = d at *
      generalize sgn q = s at *
      generalize r.getD q 0 = x at *
      by_cases hx0 : x = 0
      · have f1 : (x != 0) = false := by rw [hx0]; rfl
        have HAn : Hid (accD (fun c => detL k (minorL M.tail c)) r (q + 1) = d) := by show _ = _; rw [HASq.out, hx0]; simp
        clear hx0 HASq e1 e2
        rcases hsc with rfl | rfl
        all_goals
          go_wp2_with fail
          go_roundw
          case rel => exact ⟨q + 1, by omega, by go_num, by rw [HAn.out], by first | (rw [HSG.out]; done) | (rw [HSG.out]; rfl), HB.out⟩
          case measure => simp [intOf]; omega
      · have f1 : (x != 0) = true := by rw [bne_iff_ne]; exact hx0
        clear hx0
        go_upto_region 9 with (fail)
        have HT1 : Hid (∀ j, j < k → ∃ a' c', w.cell? ⟨b, off + 1 + j, none⟩ = some (.slice a' K c') ∧ Rd w (.slice a' K c') (M.getD (j + 1) [])) := fun j hj => by
          obtain ⟨b', o', a', c', he, _, h1, h2⟩ := HM.out.row (i := j + 1) (by have := HK.out; omega)
          cases he
          rw [HRW.out (j + 1) (by have := HK.out; omega)] at h1 h2
          exact ⟨a', c', by rw [Nat.add_assoc, Nat.add_comm 1 j]; exact h1, h2⟩
        have hKk : K - 1 = k := by have := HK.out; omega
        have h1K : (1 : Int) ≤ (K : Int) := by omega
        have hkI : ((k : Nat) : Int) = (k : Int) := rfl
        go_cut [25, 26, 27] (fun v25 v26 v27 wx => ∃ o1 c1, v25 = .slice (some ⟨b, o1, none⟩) k c1 ∧ v26 = .int .i64 k ∧ v27 = .int .i64 0 ∧ Hid (∀ j, j < k → ∃ a' c', w.cell? ⟨b, o1 + j, none⟩ = some (.slice a' K c') ∧ Rd w (.slice a' K c') (M.getD (j + 1) [])) ∧ Hid (Below w.heap.size w wx))
        case first =>
          by_cases hc : c = 1
          · subst hc
            have hk0 : k = 0 := by have := HK.out; omega
            have HZ : Hid (∀ j, j < k → ∃ a' c', w.cell? ⟨b, off + j, none⟩ = some (.slice a' K c') ∧ Rd w (.slice a' K c') (M.getD (j + 1) [])) := fun j hj => by omega
            clear hk0
            go_wp2_with fail
            go_meet
            exact ⟨off, _, rfl, rfl, rfl, HZ.out, HB.out⟩
          · go_wp2_with fail
            go_meet
            exact ⟨off + 1, _, rfl, rfl, rfl, HT1.out, HB.out⟩
        case rest =>
          obtain ⟨o1, c1, rfl, rfl, rfl, HT, HB1⟩ := hcut
          clear HT1 HB
          have HM0 : Hid (OM wc w.heap.size (.slice none 0 0) (minorL (M.tail.take 0) q)) := OM.nil _ _
          have HMS : Hid (∀ p, p < k → minorL (M.tail.take (p + 1)) q = minorL (M.tail.take p) q ++ [(M.getD (p + 1) []).eraseIdx q]) := fun p hp => by
            show _ = _
            have hpl : p < M.tail.length := by rw [HTL.out]; exact hp
            unfold minorL
            rw [List.take_add_one, List.map_append, List.getElem?_eq_getElem hpl, ← HMT.out p hp, List.getD_eq_getElem?_getD, List.getElem?_eq_getElem hpl]; rfl
          have HML : Hid (∀ p, p ≤ k → (minorL (M.tail.take p) q).length = p) := fun p hp => by
            show _ = _
            unfold minorL; rw [List.length_map, List.length_take, HTL.out]; omega
          go_wp2_with fail
          go_loopw [27, 7] (fun pv mv wr => ∃ p : Nat, p ≤ k ∧ pv = .int .i64 p ∧ Hid (OM wr w.heap.size mv (minorL (M.tail.take p) q)) ∧ Hid (Below w.heap.size w wr)) (fun pv _ _ => k - (intOf pv).toNat)
          case atStart => exact ⟨0, Nat.zero_le _, rfl, HM0.out, HB1.out⟩
          case round =>
            clear HM0 HB1
            obtain ⟨p, hp, rfl, HO, HB⟩ := hrel
            by_cases hpl : p < k
            · have hpI : (p : Int) < (k : Int) := by omega
              obtain ⟨a3, c3, cz0, hz⟩ := HT.out p hpl
              obtain ⟨b3, o3, rfl, hb3, -⟩ := hz.at (by omega)
              have cz := (World.cell?_of_block (HB.out.block b hb1)).trans cz0
              have HZr := Lib.hid hz
              have HMSp := Lib.hid (HMS.out p hpl)
              have HMLp := Lib.hid (HML.out p hp)
              clear cz0 hz
              generalize M.getD (p + 1) [] = z at *
              generalize minorL (M.tail.take p) q = zs at *
              obtain ⟨wp, rfl⟩ : ∃ wp : World, wp = wr := ⟨_, rfl⟩
              obtain ⟨hzl, hk3, hk4⟩ := HZr.out.lenEq
              have hqK : (q : Int) ≤ (K : Int) := by omega
              have hqc : (q : Int) ≤ (c3 : Int) := by omega
              have hq1K : (q : Int) + 1 ≤ (K : Int) := by omega
              have hKc : (K : Int) ≤ (c3 : Int) := by omega
              have hq0 : (0 : Int) ≤ (q : Int) := by omega
              have hq01 : (0 : Int) ≤ (q : Int) + 1 := by omega
              have hqw : IntKind.i64.wrap ((q : Int) + 1) = (q : Int) + 1 := by rw [IntKind.wrap_i64]; omega
              have ht1 := (HZr.out.take (k := q) (by omega)).app
              have hzd := HZr.out.drop (k := q + 1) (by omega)
              have HN1 : Hid (((z.take q).map (Value.int .i64)).length = q) := by show _ = _; rw [List.length_map]; exact ht1.1
              have HE : Hid (z.eraseIdx q = z.take q ++ z.drop (q + 1)) := List.eraseIdx_eq_take_drop_succ ..
              have HC1 : Hid (∀ X, Below w.heap.size w X → ∀ ad, some (⟨b3, o3, none⟩ : Addr) = some ad → ∀ j u, ((z.take q).map (Value.int .i64))[j]? = some u → X.cell? (ad.add j) = some u) := fun X hX ad had j u hu => cell_mono hX (ht1.2.2.2 ad had j u hu)
              have HONE1 : Hid (∀ u ∈ (z.take q).map (Value.int .i64), u.oneCell' = true) := fun u hu => by obtain ⟨y, _, rfl⟩ := List.mem_map.1 hu; rfl
              have HONE2 : Hid (∀ u ∈ (z.drop (q + 1)).map (Value.int .i64), u.oneCell' = true) := fun u hu => by obtain ⟨y, _, rfl⟩ := List.mem_map.1 hu; rfl
              have HN2 : Hid (((z.drop (q + 1)).map (Value.int .i64)).length = K - (q + 1)) := by show _ = _; rw [List.length_map, List.length_drop, hzl]
              have HO0 := Lib.hid (own_drew (World.ownsRow_lit (base := wp.heap.size) (e := 3) (size := 1) wp #[] 0 (Nat.le_refl _) (by decide) rfl))
              have HBp : Hid (Below w.heap.size w (wp.alloc (.cells #[] 3)).drew) := (HB.out.alloc HB.out.size _).drew
              have HBq : Hid (Below wp.heap.size wp (wp.alloc (.cells #[] 3)).drew) := ((Below.refl _ _).alloc (Nat.le_refl _) _).drew
              have hbs := HB.out.size
              have HZL := Lib.hid hzl
              clear ht1 hzl
              by_cases hcap : c3 = q + 1
              · have ht2 := (hzd.2 hcap).app
                have hE0 : z.drop (q + 1) = [] := List.drop_eq_nil_of_le (by rw [HZL.out]; omega)
                have HE2 : Hid (z.eraseIdx q = z.take q) := by show _ = _; rw [HE.out, hE0, List.append_nil]
                have hqq : (q : Int) ≤ (q : Int) + 1 := by omega
                clear ht2 hzd hE0
                subst hcap
                go_wp2_with fail
                go_region_law (first
                    | (refine step_list rfl _ _ 24 (by rfl) wp.heap.size 3 i3 (.int .i64 0) 8 Try.underlying24 hi3 hz0 hz1 hz2 (by decide) rfl _ 0 [] (by rfl) HO0.out (some ⟨b3, o3, none⟩) q (q + 1) ((z.take q).map (Value.int .i64)) (by rfl) HN1.out (fun h => by cases h) (HC1.out _ HBp.out) HONE1.out (by omega) (by simp) ?_; intro v1 w1 ho1 hg1; rw [Nat.zero_add, List.nil_append] at ho1; have hb1 : Below wp.heap.size wp w1 := HBq.out.grown hg1 (by simp) (fun k hk => by cases hk; exact Nat.le_refl _))
                    | (refine step_list rfl _ _ 24 (by rfl) wp.heap.size 3 i3 (.int .i64 0) 8 Try.underlying24 hi3 hz0 hz1 hz2 (by decide) rfl v1 q ((z.take q).map (Value.int .i64)) (by rfl) ho1 (some ⟨b3, o3, none⟩) 0 0 [] (by rfl) rfl (fun h => by cases h) (fun ad had j u hu => by cases hu) (fun u hu => by cases hu) (by omega) hb1.size ?_; intro v2 w2 ho2 hg2; have hb2 : Below wp.heap.size wp w2 := hb1.grown hg2 hb1.size (fun k hk => (ho1.lt k hk).1); have ho2' : w2.ownsRow wp.heap.size 3 1 v2 q ((z.eraseIdx q).map (Value.int .i64)) := (by rw [HE2.out]; simpa using ho2); obtain ⟨a2, k2, rfl⟩ := own_slice ho2')
                    | (refine step_row rfl _ _ (by rfl) w.heap.size u7 zs (by rfl) (HO.out.below hb2 (Nat.le_refl _)) _ (z.eraseIdx q) ((RowAt.own ho2').lower hbs) _ (by rfl) (by rfl) (by have := HMLp.out; omega) (Nat.le_trans hbs hb2.size) ?_; intro v3 w3 ho3 hb3')
                    )
                all_goals
                  have HO3 : Hid (OM w3 w.heap.size v3 (minorL (M.tail.take (p + 1)) q)) := by show OM _ _ _ _; rw [HMSp.out]; exact ho3
                  have HB3 : Hid (Below w.heap.size w w3) := (HB.out.trans (hb2.mono HB.out.size)).trans hb3'
                  clear ho3 hb3' ho1 hg1 hb1 ho2 hg2 hb2 ho2'
                  go_wp2_with fail
                  go_roundw
                  case rel => exact ⟨p + 1, by omega, by go_num, HO3.out, HB3.out⟩
                  case measure => simp [intOf]; omega
              · have ht2 := (hzd.1 hcap).app
                have HC2 : Hid (∀ X, Below w.heap.size w X → ∀ ad, some (⟨b3, o3 + (q + 1), none⟩ : Addr) = some ad → ∀ j u, ((z.drop (q + 1)).map (Value.int .i64))[j]? = some u → X.cell? (ad.add j) = some u) := fun X hX ad had j u hu => cell_mono hX (ht2.2.2.2 ad (by rw [← had]; simp [Addr.add]) j u hu)
                clear ht2 hzd
                go_wp2_with fail
                go_region_law (first
                    | (refine step_list rfl _ _ 24 (by rfl) wp.heap.size 3 i3 (.int .i64 0) 8 Try.underlying24 hi3 hz0 hz1 hz2 (by decide) rfl _ 0 [] (by rfl) HO0.out (some ⟨b3, o3, none⟩) q c3 ((z.take q).map (Value.int .i64)) (by rfl) HN1.out (fun h => by cases h) (HC1.out _ HBp.out) HONE1.out (by omega) (by simp) ?_; intro v1 w1 ho1 hg1; rw [Nat.zero_add, List.nil_append] at ho1; have hb1 : Below wp.heap.size wp w1 := HBq.out.grown hg1 (by simp) (fun k hk => by cases hk; exact Nat.le_refl _))
                    | (refine step_list rfl _ _ 24 (by rfl) wp.heap.size 3 i3 (.int .i64 0) 8 Try.underlying24 hi3 hz0 hz1 hz2 (by decide) rfl v1 q ((z.take q).map (Value.int .i64)) (by rfl) ho1 (some ⟨b3, o3 + (q + 1), none⟩) (K - (q + 1)) (c3 - (q + 1)) ((z.drop (q + 1)).map (Value.int .i64)) (by rfl) HN2.out (fun h => by cases h) (HC2.out _ (HB.out.trans (hb1.mono HB.out.size))) HONE2.out (by omega) hb1.size ?_; intro v2 w2 ho2 hg2; have hb2 : Below wp.heap.size wp w2 := hb1.grown hg2 hb1.size (fun k hk => (ho1.lt k hk).1); have ho2' : w2.ownsRow wp.heap.size 3 1 v2 (q + (K - (q + 1))) ((z.eraseIdx q).map (Value.int .i64)) := (by rw [HE.out, List.map_append]; exact ho2); obtain ⟨a2, k2, rfl⟩ := own_slice ho2')
                    | (refine step_row rfl _ _ (by rfl) w.heap.size u7 zs (by rfl) (HO.out.below hb2 (Nat.le_refl _)) _ (z.eraseIdx q) ((RowAt.own ho2').lower hbs) _ (by rfl) (by rfl) (by have := HMLp.out; omega) (Nat.le_trans hbs hb2.size) ?_; intro v3 w3 ho3 hb3')
                    )
                all_goals
                  have HO3 : Hid (OM w3 w.heap.size v3 (minorL (M.tail.take (p + 1)) q)) := by show OM _ _ _ _; rw [HMSp.out]; exact ho3
                  have HB3 : Hid (Below w.heap.size w w3) := (HB.out.trans (hb2.mono HB.out.size)).trans hb3'
                  clear ho3 hb3' ho1 hg1 hb1 ho2 hg2 hb2 ho2'
                  go_wp2_with fail
                  go_roundw
                  case rel => exact ⟨p + 1, by omega, by go_num, HO3.out, HB3.out⟩
                  case measure => simp [intOf]; omega
            · obtain rfl : p = k := by omega
              have HTT : Hid (minorL (M.tail.take p) q = minorL M.tail q) := by show _ = _; rw [List.take_of_length_le (by rw [HTL.out]; exact Nat.le_refl _)]
              have hrd := HO.out.rd
              rw [HTT.out] at hrd
              obtain ⟨am, cm, hv7, -, -⟩ := hrd.open
              have hml : (minorL M.tail q).length = p := (HMI.out q hql).1
              rw [hml] at hv7
              subst hv7
              have HCD := Lib.hid (HIH.out am cm _ wr hrd (HMI.out q hql))
              rw [HDD.out] at HCD
              clear hrd hml
              obtain ⟨P, hP⟩ : ∃ P, x * D = P := ⟨_, rfl⟩
              have hP2 : -x * D = -P := by rw [Int.neg_mul, hP]
              rcases hsc with rfl | rfl
              · rw [Int.one_mul, hP] at e1 e2 HASq
                have hPb : -196830000 ≤ P ∧ P ≤ 196830000 := by omega
                go_wp2_with fail
                refine HCD.out.mono ?_
                rintro e w5 ⟨rfl, hb5⟩
                have HB5 := Lib.hid (HB.out.trans (hb5.mono HB.out.size))
                clear hb5
                go_wp2_with fail
                exact ⟨⟨q + 1, by omega, by go_num, by rw [HASq.out], by rw [HSG.out], HB5.out⟩, by simp [intOf]; omega⟩
              · rw [Int.neg_one_mul, hP2] at e1 e2 HASq
                have hPb : -196830000 ≤ P ∧ P ≤ 196830000 := by omega
                go_wp2_with fail
                refine HCD.out.mono ?_
                rintro e w5 ⟨rfl, hb5⟩
                have HB5 := Lib.hid (HB.out.trans (hb5.mono HB.out.size))
                clear hb5
                go_wp2_with fail
                exact ⟨⟨q + 1, by omega, by go_num, by rw [HASq.out], by rw [HSG.out]; rfl, HB5.out⟩, by simp [intOf]; omega⟩
    · obtain rfl : q = K := by omega
      rw [← HDE.out]
      go_wp2_with fail
      go_ret
      exact ⟨rfl, HB.out⟩
theorem det_any : ∀ k, k ≤ 4 → ∀ (a : Option Addr) (c : Nat) (M : List (List Int)) (w : World), RdM w (.slice a k c) M → Sq k M → Calls Try.prog 20 #[.slice a k c] w fun e w' => e = .returned (.int .i64 (detL k M)) ∧ Below w.heap.size w w'
  | 0, _, a, c, M, w, _, _ => det_zero a c M w
  | k + 1, hk, a, c, M, w, h, hq => det_succ k (by omega) (det_any k (by omega)) a (k + 1) c rfl M w h hq
end Go.Proofs.Ytidnmdfpnmahpaa
