/- The walk of PermEach. No condition. -/
import Derived.Test.YtdneljpimocgfaaEachL
set_option linter.unusedSimpArgs false
set_option linter.unusedVariables false
namespace Go.Proofs.Ytdneljpimocgfaa.permEach
open Go.RowKit Go.Proofs.Ytdneljpimocgfaa
theorem dl_congr {d d' : Nat → Nat} {n : Nat} (h : ∀ k, k < n → d k = d' k) : ∀ {m : Nat} (f : Nat → Nat), m ≤ n → dl d f m = dl d' f m
  | 0, f, _ => rfl
  | m + 1, f, hm => by rw [dl, dl, h m (by omega), dl_congr h _ (by omega)]
set_option maxHeartbeats 3200000 in
theorem walk_ok (n : Nat) (hn : n ≤ 6) (w : World) : Calls Try.prog 3 #[.int .i64 n] w fun e w' => e = .returned (.bool true) ∧ Below w.heap.size w w' := by
  obtain ⟨i0, hinfo, hz0, hz1, hz2⟩ := info_parts Try.info3t
  obtain ⟨i4, hinfo4, hy0, hy1, hy2⟩ := info_parts Try.info4t
  have hfc := fct_le hn
  have HRK := Lib.hid (fun x hx => R_ok (x := x) hn hx)
  have HXQ := Lib.hid (xq_le n)
  go_enter Try.func3, Try.ntmps3
  go_wp2_with fail
  refine (alive_any _).mono ?_
  rintro e w1 ⟨rfl, hb1⟩
  have HB1 := Lib.hid hb1
  clear hb1
  go_wp2_with fail
  go_loop [3, 4] (fun av kv => ∃ k : Nat, 1 ≤ k ∧ (k ≤ n ∨ k = 1) ∧ kv = .int .i64 ((k : Int) + 1) ∧ av = .int .i64 (fct k : Nat)) (fun _ kv => n + 3 - (intOf kv).toNat)
  case atStart => exact ⟨1, by omega, .inr rfl, rfl, rfl⟩
  case round =>
    obtain ⟨k, hk1, hk2, rfl, rfl⟩ := hrel
    by_cases hlt : k + 1 ≤ n
    · have hp : (fct k : Int) * ((k : Int) + 1) = (fct (k + 1) : Nat) := rfl
      have hf1 := fct_le (show k ≤ 6 by omega)
      have hf2 := fct_le (show k + 1 ≤ 6 by omega)
      have HY := Lib.hid (rfl : fct (k + 1) = fct (k + 1))
      obtain ⟨y, hy⟩ : ∃ y, fct (k + 1) = y := ⟨_, rfl⟩
      rw [hy] at hp hf2
      have HYY := Lib.hid hy
      clear hy HY
      generalize fct k = x at *
      go_wp2_with fail
      exact ⟨⟨k + 1, by omega, .inl hlt, by go_num, by rw [HYY.out]⟩, by simp [intOf]; omega⟩
    · have hke : fct k = fct n := by
        rcases hk2 with h | h
        · rw [show k = n by omega]
        · subst h
          rcases Nat.eq_zero_or_pos n with h0 | h0
          · subst h0; rfl
          · rw [show n = 1 by omega]
      rw [hke]
      have f1 : decide ((k : Int) + 1 ≤ (n : Int)) = false := decide_eq_false (by omega)
      have f2 : decide (k + 1 ≤ n) = false := decide_eq_false hlt
      clear hke hk2
      obtain ⟨A, hA⟩ : ∃ A, fct n = A := ⟨_, rfl⟩
      rw [hA] at hfc HRK ⊢
      have HA := Lib.hid hA
      have b2 : i4.bytes * A ≤ 281474976710656 := by rw [hy2]; omega
      have b3 : A ≤ maxLen := by unfold maxLen; omega
      clear hA hlt
      go_wp2_with (refine wpList_make_full _ rfl _ _ 23 rfl w1.heap.size 4 i4 (.bool false) 1 Try.underlying23 hinfo4 hy0 hy1 .i64 .i64 _ _ A rfl rfl ?hL ?hC b2 b3 (Nat.le_refl _) ?_)
      case hL => simp
      case hC => simp
      intro w2 hown hgr
      have HB2 := Lib.hid (HB1.out.trans (((Below.refl w1.heap.size w1).grown hgr (Nat.le_refl _) (fun k hk => by cases hk)).mono HB1.out.size))
      rw [falses_eq] at hown
      have HO := Lib.hid hown
      have hgl := HB1.out.size
      obtain ⟨g, hg⟩ : ∃ g, w1.heap.size = g := ⟨_, rfl⟩
      rw [hg] at HO hgl ⊢
      clear hown hgr b2 b3 hg f1 f2
      go_wp2_with fail
      go_loopw [32, 6, 7, 8, 9, 10, 11, 12] (fun iv _ _ _ _ _ _ _ wr => ∃ (x : Nat) (c : List Bool), x ≤ A ∧ iv = .int .i64 x ∧ Below w.heap.size w wr ∧ wr.ownsRow g 4 1 (.slice (some ⟨g, 0, none⟩) A A) A (c.map Value.bool) ∧ Hid (Had (R n) c A x)) (fun iv _ _ _ _ _ _ _ _ => A - (intOf iv).toNat)
      case atStart => exact ⟨0, _, Nat.zero_le _, rfl, HB2.out, HO.out, Had.zero _ _⟩
      case round =>
        clear HB2 HO
        obtain ⟨x, c, hx, rfl, hbel, ho, hhad⟩ := hrel
        by_cases hlt : x < A
        · have c2 : i0.bytes * n ≤ 281474976710656 := by rw [hz2]; omega
          have c3 : n ≤ maxLen := by unfold maxLen; omega
          have HBE := Lib.hid hbel
          have HO := Lib.hid ho
          clear hbel ho
          go_wp2_with (refine wpList_make_full _ rfl _ _ 24 rfl wr.heap.size 3 i0 (.int .i64 0) 1 Try.underlying24 hinfo hz0 hz1 .i64 .i64 _ _ n rfl rfl ?hL2 ?hC2 c2 c3 (Nat.le_refl _) ?_)
          case hL2 => simp
          case hC2 => simp
          intro w4 hown hgr
          have HB4 := Lib.hid ((Below.refl wr.heap.size wr).grown hgr (Nat.le_refl _) (fun k hk => by cases hk))
          have HD := Lib.hid (OC.made (g := wr.heap.size) hown)
          obtain ⟨g2, hg2⟩ : ∃ g2, wr.heap.size = g2 := ⟨_, rfl⟩
          rw [hg2] at HB4 HD ⊢
          have HG2 := Lib.hid hg2
          clear hown hgr hg2 c2 c3
          go_wp2_with fail
          go_loopw [6, 8] (fun xv kv wr' => ∃ m : Nat, m ≤ n ∧ xv = .int .i64 (xq n x m : Nat) ∧ kv = .int .i64 ((n : Int) - 1 - m) ∧ Below g2 wr wr' ∧ OC wr' g2 g2 n n (fun k => if n ≤ k + m then dg n x k else 0)) (fun _ kv _ => (intOf kv + 1).toNat)
          case atStart => exact ⟨0, Nat.zero_le _, rfl, by simp, HB4.out, HD.out.congr (fun k hk => by rw [if_neg (by omega)])⟩
          case round =>
            clear HB4 HD
            obtain ⟨m, hm, rfl, rfl, hbel, ho⟩ := hrel
            by_cases hlm : m < n
            · obtain ⟨k, hk⟩ : ∃ k : Nat, k = n - 1 - m := ⟨_, rfl⟩
              have hki : (n : Int) - 1 - (m : Int) = (k : Int) := by omega
              rw [hki]
              have hkn : k < n := by omega
              have co := ho.get k hkn
              have cf := ho.frozen k
              have HST := Lib.hid (ho.set k (xq n x m % (k + 1)))
              have HBS := Lib.hid (hbel.setCell (show g2 ≤ (⟨g2, k, none⟩ : Addr).block from Nat.le_refl _) (.int .i64 (xq n x m % (k + 1) : Nat)))
              have HDG : Hid (dg n x k = xq n x m % (k + 1)) := by
                show _ = _
                unfold dg
                rw [show n - 1 - k = m by omega]
              have HRR : Hid (xq n x (m + 1) = xq n x m / (k + 1)) := by
                show _ = _
                rw [xq, show n - m = k + 1 by omega]
              have hrm := HXQ.out x m
              have hml := Nat.mod_le (xq n x m) (k + 1)
              have hdl := Nat.div_le_self (xq n x m) (k + 1)
              have HM1 : Hid (((xq n x m % (k + 1) : Nat) : Int) = (xq n x m : Int) % ((k : Int) + 1)) := rfl
              have HM2 : Hid (((xq n x m / (k + 1) : Nat) : Int) = (xq n x m : Int) / ((k : Int) + 1)) := rfl
              have HK := Lib.hid hk
              clear ho hbel hk
              generalize xq n x m % (k + 1) = z at *
              generalize xq n x m / (k + 1) = y at *
              generalize xq n x m = xx at *
              go_wp2_with fail
              have e1 : wrap64 ((xx : Int) / ((k : Int) + 1)) = (y : Int) := by rw [← HM2.out]; unfold wrap64; omega
              rw [e1, ← HM1.out]
              refine ⟨⟨m + 1, by omega, by rw [HRR.out], by have := HK.out; simp; omega, HBS.out, HST.out.congr (fun j hj => ?_)⟩, by simp [intOf]⟩
              have := HK.out
              by_cases e2 : j = k
              · subst e2; rw [if_pos rfl, if_pos (by omega), HDG.out]
              · rw [if_neg e2]
                by_cases e3 : n ≤ j + m
                · rw [if_pos e3, if_pos (by omega)]
                · rw [if_neg e3, if_neg (by omega)]
            · obtain rfl : m = n := by omega
              have hd := ho.congr (f' := dg m x) (fun k hk => by rw [if_pos (by omega)])
              have HRD := Lib.hid hd.rd
              have hbo := hbel
              rw [← HG2.out] at hbo
              have HO5 := Lib.hid (own_below HO.out hbo (Nat.le_refl _))
              have HB5 := Lib.hid (HBE.out.trans (hbo.mono HBE.out.size))
              obtain ⟨hok, hRA, hRn⟩ := HRK.out x hlt
              have HOKD : Hid (OkD (tabI m (dg m x))) := ⟨by rw [tabI_len]; omega, fun k hk => by
                rw [tabI_len] at hk
                rw [tabI_get _ _ _ hk]
                have : dg m x k < k + 1 := Nat.mod_lt _ (Nat.succ_pos k)
                generalize dg m x k = z at *
                omega⟩
              have HPM : Hid (tabI (tabI m (dg m x)).length (dl (nd (tabI m (dg m x))) (fun i => i) (tabI m (dg m x)).length) = pm m x) := by
                show _ = _
                rw [tabI_len]
                unfold pm
                rw [dl_congr (d := nd (tabI m (dg m x))) (d' := dg m x) (n := m) (fun k hk => by rw [nd_tabI, if_pos hk]) (fun i => i) (Nat.le_refl _)]
              have HOKP := Lib.hid hok
              have HNEW := Lib.hid (Had.new hhad.out hRA hRn)
              have HSTEP := Lib.hid (Had.step hhad.out hRA)
              have hm1 : (m : Int) - 1 - (m : Int) = -1 := by omega
              rw [hm1]
              have HRE : Hid (rkP (pm m x) = R m x) := rfl
              clear ho hbel hd hbo hok hRn hm1 hhad
              generalize R m x = r at *
              generalize xq m x m = xx at *
              go_wp2_with fail
              refine (deal_ok _ _ _ HRD.out HOKD.out).mono ?_
              rintro e w5 ⟨hb5, u5, rfl, hu5⟩
              rw [HPM.out] at hu5
              have HO6 := Lib.hid (own_below HO5.out hb5 (Nat.le_refl _))
              have HB6 := Lib.hid (HB5.out.trans (hb5.mono HB5.out.size))
              have HU5 := Lib.hid hu5
              clear hb5 hu5
              go_wp2_with fail
              refine (rank_ok _ _ _ HU5.out HOKP.out).mono ?_
              rintro e w6 ⟨hb6, rfl⟩
              rw [HRE.out]
              have HO7 := Lib.hid (own_below HO6.out hb6 (Nat.le_refl _))
              have HB7 := Lib.hid (HB6.out.trans (hb6.mono HB6.out.size))
              have cc := ownb_get HO7.out r hRA
              rw [HNEW.out] at cc
              have cf := World.ownsRow.frozenAt HO7.out r
              have HSET := Lib.hid (ownb_set HO7.out r true)
              have HBS := Lib.hid (HB7.out.setCell (show w.heap.size ≤ (⟨g, r, none⟩ : Addr).block from hgl) (.bool true))
              have f1 : decide ((r : Int) < 0) = false := decide_eq_false (by omega)
              have f2 : decide ((A : Int) ≤ (r : Int)) = false := decide_eq_false (by omega)
              have f3 : decide (A ≤ r) = false := decide_eq_false (by omega)
              clear hb6
              go_wp2_with fail
              exact ⟨⟨x + 1, _, by omega, by go_num, HBS.out, HSET.out, HSTEP.out⟩, by simp [intOf]; omega⟩
        · obtain rfl : x = A := by omega
          have HBE := Lib.hid hbel
          clear hbel ho
          go_wp2_with fail
          go_ret
          exact ⟨rfl, HBE.out⟩
theorem walk (n : Int) (w : World) (_ : (Lit.int .i64 n).wf = true) : Calls Try.prog 3 #[.int .i64 n] w fun e w' => e = .returned (.bool true) ∧ Below w.heap.size w w' := by
  by_cases h : 0 ≤ n ∧ n ≤ 6
  · obtain ⟨m, rfl⟩ : ∃ m : Nat, n = m := ⟨n.toNat, by omega⟩
    exact walk_ok m (by omega) w
  · by_cases h0 : n < 0
    · have c1 : decide (n < 0) = true := decide_eq_true h0
      clear h
      go_enter Try.func3, Try.ntmps3
      go_wp2_with fail
      refine (alive_any _).mono ?_
      rintro e w1 ⟨rfl, hb1⟩
      have HB1 := Lib.hid hb1
      clear hb1
      go_wp2_with fail
      go_ret
      exact ⟨rfl, HB1.out⟩
    · have c1 : decide (n < 0) = false := decide_eq_false h0
      have c2 : decide (6 < n) = true := decide_eq_true (by omega)
      clear h
      go_enter Try.func3, Try.ntmps3
      go_wp2_with fail
      refine (alive_any _).mono ?_
      rintro e w1 ⟨rfl, hb1⟩
      have HB1 := Lib.hid hb1
      clear hb1
      go_wp2_with fail
      go_ret
      exact ⟨rfl, HB1.out⟩
end Go.Proofs.Ytdneljpimocgfaa.permEach
