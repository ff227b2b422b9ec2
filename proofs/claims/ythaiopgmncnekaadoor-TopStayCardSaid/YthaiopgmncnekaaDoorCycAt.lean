/- perm.At: what it answers. No condition. -/
import Derived.Test.YthaiopgmncnekaaDoorCycPush
import Derived.StillTailTactics
set_option linter.unusedSimpArgs false
set_option linter.unusedVariables false
set_option maxRecDepth 20000
namespace Go.Proofs.YthaiopgmncnekaaDoor.Cyc
open Go.RowKit
def rq (r : Nat) : Nat → Nat
  | 0 => r
  | m + 1 => rq r m / (m + 1)
theorem rq_le (r : Nat) : ∀ m, rq r m ≤ r
  | 0 => Nat.le_refl _
  | m + 1 => Nat.le_trans (Nat.div_le_self _ _) (rq_le r m)
def dgE (n r k : Nat) : Nat := rq r (n - 1 - k) % (n - k)
def pick : List Int → List Nat → List Int
  | _, [] => []
  | ls, x :: cs => ls.getD x 0 :: pick (ls.eraseIdx x) cs
def digs (n r : Nat) : List Nat := (List.range n).map (dgE n r)
theorem digs_len (n r : Nat) : (digs n r).length = n := by simp [digs]
theorem digs_drop (n r i : Nat) (hi : i < n) : (digs n r).drop i = dgE n r i :: (digs n r).drop (i + 1) := by
  rw [List.drop_eq_getElem_cons (by rw [digs_len]; exact hi)]
  simp [digs]
def atL (n r : Nat) : List Int := pick (tabI n (fun k => k)) (digs n r)
def AtPost (B n r : Nat) (e : Ending) (w' : World) : Prop :=
  (0 < rq r n → e = .returned (.tuple #[.slice none 0 0, .int .i64 3])) ∧ (rq r n = 0 → ∃ u, e = .returned (.tuple #[u, .int .i64 0]) ∧ Rd w' u (atL n r) ∧ ∀ b, u.ownBlock = some b → B ≤ b)
set_option maxHeartbeats 3200000 in
theorem at_nat (n r : Nat) (hn : n ≤ 20) (hr : r ≤ 9223372036854775807) (w : World) : Calls Tryd.prog 14 #[.int .i64 n, .int .i64 r] w fun e w' => Below w.heap.size w w' ∧ AtPost w.heap.size n r e w' := by
  obtain ⟨i0, hinfo, hz0, hz1, hz2⟩ := info_parts Tryd.info3t
  have b2 : i0.bytes * n ≤ 281474976710656 := by rw [hz2]; omega
  have b3 : n ≤ maxLen := by unfold maxLen; omega
  go_enter Tryd.func14, Tryd.ntmps14
  go_wp2_with (refine wpList_make_full _ rfl _ _ 30 rfl w.heap.size 3 i0 (.int .i64 0) 1 Tryd.underlying30 hinfo hz0 hz1 .i64 .i64 _ _ n rfl rfl ?hL ?hC b2 b3 (Nat.le_refl _) ?_)
  case hL => simp
  case hC => simp
  intro w3 hown hgr
  have HB3 := Lib.hid ((Below.refl w.heap.size w).grown hgr (Nat.le_refl _) (fun k hk => by cases hk))
  have HO := Lib.hid (OC.made (g := w.heap.size) hown)
  have hlt0 := HO.out.lt.2
  obtain ⟨g, hg⟩ : ∃ g, w.heap.size = g := ⟨_, rfl⟩
  rw [hg] at HB3 HO hlt0 ⊢
  have HG := Lib.hid hg
  clear hown hgr hg
  have hrq := rq_le r
  have HRQ := Lib.hid hrq
  clear hrq
  go_wp2_with fail
  go_loopw [1, 7] (fun rv kv wr => ∃ m : Nat, m ≤ n ∧ rv = .int .i64 (rq r m : Nat) ∧ kv = .int .i64 ((n : Int) - 1 - m) ∧ Below g w wr ∧ w3.heap.size ≤ wr.heap.size ∧ OC wr g g n n (fun k => if n ≤ k + m then dgE n r k else 0)) (fun _ kv _ => (intOf kv + 1).toNat)
  case atStart => exact ⟨0, Nat.zero_le _, rfl, by simp, HB3.out, Nat.le_refl _, HO.out.congr (fun k hk => by rw [if_neg (by omega)])⟩
  case round =>
    clear HB3 HO
    obtain ⟨m, hm, rfl, rfl, hbel, hsz, ho⟩ := hrel
    by_cases hlt : m < n
    · obtain ⟨k, hk⟩ : ∃ k : Nat, k = n - 1 - m := ⟨_, rfl⟩
      have hki : (n : Int) - 1 - (m : Int) = (k : Int) := by omega
      rw [hki]
      have hkn : k < n := by omega
      have hnk : (n : Int) - (k : Int) = (m : Int) + 1 := by omega
      have co := ho.get k hkn
      have cf := ho.frozen k
      have HST := Lib.hid (ho.set k (rq r m % (m + 1)))
      have HBS := Lib.hid (hbel.setCell (show g ≤ (⟨g, k, none⟩ : Addr).block from Nat.le_refl _) (.int .i64 (rq r m % (m + 1) : Nat)))
      have HDG : Hid (dgE n r k = rq r m % (m + 1)) := by
        show _ = _
        unfold dgE
        rw [show n - 1 - k = m by omega, show n - k = m + 1 by omega]
      have HRR : Hid (rq r (m + 1) = rq r m / (m + 1)) := rfl
      have hrm := HRQ.out m
      have hml := Nat.mod_le (rq r m) (m + 1)
      have hdl := Nat.div_le_self (rq r m) (m + 1)
      have HM1 : Hid (((rq r m % (m + 1) : Nat) : Int) = (rq r m : Int) % ((m : Int) + 1)) := rfl
      have HM2 : Hid (((rq r m / (m + 1) : Nat) : Int) = (rq r m : Int) / ((m : Int) + 1)) := rfl
      have HK := Lib.hid hk
      clear ho hbel hk
      generalize rq r m % (m + 1) = z at *
      generalize rq r m / (m + 1) = y at *
      generalize rq r m = x at *
      go_wp2_with fail
      have e1 : wrap64 ((x : Int) / ((m : Int) + 1)) = (y : Int) := by rw [← HM2.out]; unfold wrap64; omega
      rw [e1, ← HM1.out]
      refine ⟨⟨m + 1, by omega, by rw [HRR.out], by have := HK.out; simp; omega, HBS.out, Nat.le_trans hsz (by simp [World.setCell]), HST.out.congr (fun j hj => ?_)⟩, by simp [intOf]⟩
      have := HK.out
      by_cases e2 : j = k
      · subst e2; rw [if_pos rfl, if_pos (by omega), HDG.out]
      · rw [if_neg e2]
        by_cases e3 : n ≤ j + m
        · rw [if_pos e3, if_pos (by omega)]
        · rw [if_neg e3, if_neg (by omega)]
    · obtain rfl : m = n := by omega
      have HO := Lib.hid (ho.congr (f' := dgE m r) (fun k hk => by rw [if_pos (by omega)]))
      have HBE := Lib.hid hbel
      have hm1 : (m : Int) - 1 - (m : Int) = -1 := by omega
      rw [hm1]
      have hrl := HRQ.out m
      have HP : Hid (∀ e w', AtPost w.heap.size m r e w' = AtPost w.heap.size m r e w') := fun _ _ => rfl
      by_cases h0 : 0 < rq r m
      · have f1 : decide (0 < (rq r m : Int)) = true := decide_eq_true (by omega)
        have HX : Hid (∀ w', AtPost w.heap.size m r (.returned (.tuple #[.slice none 0 0, .int .i64 3])) w') := fun w' => ⟨fun _ => rfl, fun h => absurd h (by omega)⟩
        clear ho hbel
        generalize rq r m = x at *
        go_wp2_with fail
        go_ret2
        exact ⟨by rw [HG.out]; exact HBE.out, HX.out _⟩
      · have hz : rq r m = 0 := by omega
        have HX : Hid (∀ w' u, Rd w' u (atL m r) → (∀ b, u.ownBlock = some b → w.heap.size ≤ b) → AtPost w.heap.size m r (.returned (.tuple #[u, .int .i64 0])) w') := fun w' u hu hb => ⟨fun h => absurd h (by omega), fun _ => ⟨_, rfl, hu, hb⟩⟩
        rw [hz]
        clear ho hbel h0 hz hrl hm1
        have hgw := HO.out.lt.2
        go_wp2_with (refine wpList_make_full _ rfl _ _ 30 rfl wr.heap.size 3 i0 (.int .i64 0) 1 Tryd.underlying30 hinfo hz0 hz1 .i64 .i64 _ _ m rfl rfl ?hL2 ?hC2 b2 b3 (Nat.le_refl _) ?_)
        case hL2 => simp
        case hC2 => simp
        intro w4 hown hgr
        have hb4 : Below wr.heap.size wr w4 := (Below.refl wr.heap.size wr).grown hgr (Nat.le_refl _) (fun k hk => by cases hk)
        have HB4 := Lib.hid hb4
        have HL := Lib.hid (OC.made (g := wr.heap.size) hown)
        obtain ⟨g2, hg2⟩ : ∃ g2, wr.heap.size = g2 := ⟨_, rfl⟩
        rw [hg2] at HB4 HL hgw ⊢
        have HG2 := Lib.hid hg2
        clear hown hgr hg2 hb4
        have HO4 := Lib.hid (HO.out.keepAt HB4.out hgw)
        have HBE4 := Lib.hid (HBE.out.trans (HB4.out.mono (show g ≤ g2 by omega)))
        go_wp2_with fail
        go_loopw [50, 9] (fun iv _ wr => ∃ i : Nat, i ≤ m ∧ iv = .int .i64 i ∧ Below g2 w4 wr ∧ OC wr g2 g2 m m (fun k => if k < i then k else 0)) (fun iv _ _ => m - (intOf iv).toNat)
        case atStart => exact ⟨0, Nat.zero_le _, rfl, Below.refl _ _, HL.out.congr (fun k _ => by rw [if_neg (by omega)])⟩
        case round =>
          clear HL
          obtain ⟨i, hi, rfl, hbel, ho⟩ := hrel
          by_cases hlt : i < m
          · have co := ho.get i hlt
            have cf := ho.frozen i
            have HST := Lib.hid (ho.set i i)
            have HBS := Lib.hid (hbel.setCell (show g2 ≤ (⟨g2, i, none⟩ : Addr).block from Nat.le_refl _) (.int .i64 (i : Nat)))
            clear ho hbel
            go_wp2_with fail
            exact ⟨⟨i + 1, by omega, by go_num, HBS.out, HST.out.congr (fun k _ => step_if (F := fun k => k) (G := fun _ => 0) rfl k)⟩, by simp [intOf]; omega⟩
          · obtain rfl : i = m := by omega
            have HL := Lib.hid (ho.congr (f' := fun k => k) (fun k hk => by rw [if_pos hk]))
            have HBL := Lib.hid hbel
            clear ho hbel
            have HBLW := Lib.hid (HBE4.out.trans (HBL.out.mono (show g ≤ g2 by omega)))
            have HOL := Lib.hid (HO4.out.keepAt HBL.out hgw)
            have HLT := HL.out.lt.2
            have hgwr := HOL.out.lt.2
            obtain ⟨B, hB⟩ : ∃ B, B = wr.heap.size := ⟨_, rfl⟩
            have hBw : B ≤ wr.heap.size := by omega
            have hgB : g < B := by omega
            have hg2B : g2 < B := by omega
            have HA0 : Hid (At0 wr g2 i (tabI i (fun k => k))) := ⟨by rw [tabI_len]; exact Nat.le_refl _, b3, HLT, fun k hk => by
              rw [tabI_len] at hk
              rw [tabI_get _ _ _ hk]
              exact HL.out.get k hk⟩
            have HDGL : Hid (∀ k, k < i → dgE i r k < i - k) := fun k hk => Nat.mod_lt _ (by omega)
            clear hB b2 b3
            go_wp2_with fail
            go_loopw [60, 10, 8, 12] (fun iv ov lv _ wr => ∃ (j h cap : Nat) (ls outs : List Int), j ≤ i ∧ iv = .int .i64 j ∧ lv = .slice (some ⟨h, 0, none⟩) (i - j) cap ∧ ls.length = i - j ∧ At0 wr h cap ls ∧ wr.ownsRow B 3 1 ov j (outs.map (Value.int .i64)) ∧ ov.ownBlock ≠ some h ∧ Below g w wr ∧ OC wr g g i i (dgE i r) ∧ B ≤ wr.heap.size ∧ Hid (atL i r = outs ++ pick ls ((digs i r).drop j))) (fun iv _ _ _ _ => i - (intOf iv).toNat)
            case atStart => exact ⟨0, g2, i, tabI i (fun k => k), [], Nat.zero_le _, rfl, rfl, by rw [tabI_len]; rfl, HA0.out, World.ownsRow_nil _ _ _ _, by simp [Value.ownBlock], HBLW.out, HOL.out, hBw, by show _ = _; rw [List.drop_zero]; rfl⟩
            case round =>
              clear HA0 HBLW HOL HLT hgwr hBw
              obtain ⟨j, h, cap, ls, outs, hj, rfl, rfl, hll, ha, hown, hne, hbel, ho, hsz, hfin⟩ := hrel
              by_cases hlt : j < i
              · have cd1 := ho.get j hlt
                have hdl := HDGL.out j hlt
                have hfin2 := hfin.out
                rw [digs_drop _ _ _ hlt] at hfin2
                obtain ⟨x, hx⟩ : ∃ x, dgE i r j = x := ⟨_, rfl⟩
                rw [hx] at cd1 hdl hfin2
                rw [pick] at hfin2
                obtain ⟨L, hL⟩ : ∃ L, i - j = L := ⟨_, rfl⟩
                rw [hL] at hdl hll ⊢
                obtain ⟨a1, a2, a3, a4⟩ := ha
                have cl := a4 x (by omega)
                obtain ⟨y, hy⟩ : ∃ y, ls.getD x 0 = y := ⟨_, rfl⟩
                rw [hy] at cl hfin2
                have HFIN := Lib.hid hfin2
                have HA := Lib.hid (show At0 wr h cap ls from ⟨a1, a2, a3, a4⟩)
                have HOWN := Lib.hid hown
                have HNE := Lib.hid hne
                have HBE := Lib.hid hbel
                have HOO := Lib.hid ho
                have HLL := Lib.hid hll
                rw [hll] at a1
                unfold maxLen at a2
                have hL20 : L ≤ 20 := by omega
                have hji : j + L = i := by omega
                have g1 : ((L : Int) ≤ (x : Int)) = False := eq_false (by omega)
                have g2' : (L ≤ x) = False := eq_false (by omega)
                have hjL : i - (j + 1) = L - 1 := by omega
                clear hx hL hy hfin hfin2 hown hne hbel ho hll a4
                go_wp2_with (at_builtin; go_must (refine push2 rfl _ _ rfl B _ j outs rfl HOWN.out y _ rfl rfl (by omega) hsz ?_))
                intro ov' w5 hown5 hgr5 hwh5
                have hb5 : Below B wr w5 := grown_below hgr5 HOWN.out (Below.refl _ _) (Nat.le_refl _) hsz
                have HB5 := Lib.hid (HBE.out.trans (hb5.mono (show g ≤ B by omega)))
                have HO5 := Lib.hid (HOO.out.keepAt hb5 hgB)
                have hsz5 : B ≤ w5.heap.size := Nat.le_trans hsz hb5.size
                have HA5 : Hid (At0 w5 h cap ls) := by
                  obtain ⟨c1, c2, c3, c4⟩ := HA.out
                  have hbk : w5.heap[h]? = wr.heap[h]? := by
                    rw [hgr5.block h (by simp; omega) (fun e => HNE.out e.symm)]
                    exact Below.heap_alloc _ _ _ c3
                  exact ⟨c1, c2, Nat.lt_of_lt_of_le c3 hb5.size, fun k hk => (World.cell?_of_block hbk).trans (c4 k hk)⟩
                have HNE5 : Hid (ov'.ownBlock ≠ some h) := by
                  rcases hwh5 with e | ⟨g', e, hge⟩
                  · rw [e]; exact HNE.out
                  · rw [e]; intro e2; cases e2; exact absurd a3 (by omega)
                have HOWN5 := Lib.hid hown5
                have HEL : Hid ((ls.eraseIdx x).length = L - 1) := by show _ = _; rw [List.length_eraseIdx, if_pos (by rw [HLL.out]; exact hdl), HLL.out]
                clear hown5 hgr5 hwh5 hb5 cd1 cl hsz HA HOWN HNE HBE HOO
                have HB5 : Hid (Below g w w5.drew) := HB5.out.drew
                have HO5 : Hid (OC w5.drew g g i i (dgE i r)) := HO5.out
                have HA5 : Hid (At0 w5.drew h cap ls) := HA5.out
                have HOWN5 : Hid (w5.drew.ownsRow B 3 1 ov' (j + 1) ((outs ++ [y]).map (Value.int .i64))) := by rw [List.map_append]; exact HOWN5.out
                have hsz5 : B ≤ w5.drew.heap.size := hsz5
                by_cases hlast : x + 1 < L
                · obtain ⟨cap', w6, hcut, hat6, hb6⟩ := cut_more HA5.out (x := x) (by rw [HLL.out]; exact hlast) (by rw [HLL.out]; omega) 30 (cap - (x + 1))
                  rw [HLL.out] at hcut
                  have HA6 := Lib.hid hat6
                  have HB6 := Lib.hid (HB5.out.trans (hb6.mono (show g ≤ w5.drew.heap.size by omega)))
                  have HO6 := Lib.hid (HO5.out.below hb6 (Nat.le_refl _))
                  have HOWN6 := Lib.hid (own_below HOWN5.out hb6 (Nat.le_refl _))
                  have HNE6 : Hid (ov'.ownBlock ≠ some w5.drew.heap.size) := fun e => by
                    have := HOWN5.out.lt _ e
                    omega
                  have hsz6 : B ≤ w6.heap.size := Nat.le_trans hsz5 hb6.size
                  have hcn : (cap - (x + 1) = 0) = False := eq_false (by omega)
                  have hcn2 : (cap = x + 1) = False := eq_false (by omega)
                  clear hat6 hb6
                  go_wp2_with fail
                  have k1 : (x ≤ cap) = True := eq_true (by omega)
                  have k2 : (x + 1 ≤ L) = True := eq_true (by omega)
                  have k3 : (L < x + 1) = False := eq_false (by omega)
                  have k4 : ((L : Int) < (x : Int) + 1) = False := eq_false (by omega)
                  have k5 : (L ≤ cap) = True := eq_true (by omega)
                  have k6 : (cap < L) = False := eq_false (by omega)
                  have k9 : (0 ≤ (x : Int) + 1 ∧ (x : Int) + 1 ≤ (L : Int)) = True := eq_true (by omega)
                  have k7 : IntKind.i64.wrap ((x : Int) + 1) = ((x + 1 : Nat) : Int) := by rw [IntKind.wrap_i64]; omega
                  go_still_tail 8, (by kernel_rfl)
                  change wpList _ _ _ _ _ w5.drew
                  clear k7 k9
                  go_wp2_with (at_builtin; go_must (refine Lib.wpList_append_run _ rfl _ _ 30 30 rfl _ _ rfl rfl _ w6 hcut ?_))
                  clear k1 k2 k3 k4 k5 k6 hcn hcn2 g1 g2'
                  go_wp2_with fail
                  go_roundw
                  case rel => exact ⟨j + 1, w5.drew.heap.size, cap', ls.eraseIdx x, outs ++ [y], by omega, by go_num, by rw [hjL]; rfl, by rw [HEL.out, hjL], HA6.out, by simpa using HOWN6.out, HNE6.out, HB6.out, HO6.out, hsz6, by show _ = _; rw [HFIN.out]; simp⟩
                  case measure => simp [intOf]; omega
                · have hxL : x + 1 = L := by omega
                  have HA7 : Hid (At0 w5.drew h x (ls.eraseIdx x)) := by
                    obtain ⟨c1, c2, c3, c4⟩ := HA5.out
                    have e1 : ls.eraseIdx x = ls.take x := by
                      rw [List.eraseIdx_eq_take_drop_succ, List.drop_eq_nil_of_le (by rw [HLL.out]; omega), List.append_nil]
                    rw [e1]
                    have hlx : (ls.take x).length = x := by rw [List.length_take, HLL.out]; omega
                    refine ⟨by rw [hlx]; exact Nat.le_refl _, by unfold maxLen; omega, c3, fun k hk => ?_⟩
                    rw [hlx] at hk
                    rw [c4 k (by rw [HLL.out]; omega)]
                    rw [List.getD_eq_getElem?_getD, List.getD_eq_getElem?_getD, List.getElem?_take, if_pos hk]
                  have hcut := fun (ad : Addr) (c2 : Nat) => cut_none (w := w5.drew) (h := h) x 30 c2 ad
                  have k1 : (x ≤ cap) = True := eq_true (by omega)
                  have k2 : (x + 1 ≤ L) = True := eq_true (by omega)
                  have k3 : (L < x + 1) = False := eq_false (by omega)
                  have k5 : (L ≤ cap) = True := eq_true (by omega)
                  have k6 : (cap < L) = False := eq_false (by omega)
                  have k9 : (0 ≤ (x : Int) + 1 ∧ (x : Int) + 1 ≤ (L : Int)) = True := eq_true (by omega)
                  have k7 : IntKind.i64.wrap ((x : Int) + 1) = ((x + 1 : Nat) : Int) := by rw [IntKind.wrap_i64]; omega
                  have k8 : L - (x + 1) = 0 := by omega
                  have HXL := Lib.hid (show i - (j + 1) = x by omega)
                  clear hlast hxL
                  by_cases hcap : cap = x + 1
                  · subst hcap
                    have k10 : ((x : Int) ≤ (x : Int) + 1) = True := eq_true (by omega)
                    have k11 : ((L : Int) ≤ (x : Int) + 1) = True := eq_true (by omega)
                    go_wp2_with fail
                    go_still_tail 8, (by kernel_rfl)
                    change wpList _ _ _ _ _ w5.drew
                    clear k7 k9
                    go_wp2_with (at_builtin; go_must (refine Lib.wpList_append_run _ rfl _ _ 30 30 rfl _ _ rfl rfl _ w5.drew (hcut _ _) ?_))
                    clear k1 k2 k3 k5 k6 k8 g1 g2' 
                    go_wp2_with fail
                    go_roundw
                    case rel => exact ⟨j + 1, h, x, ls.eraseIdx x, outs ++ [y], by omega, by go_num, by rw [HXL.out], by rw [HEL.out, hjL], HA7.out, by simpa using HOWN5.out, HNE5.out, HB5.out, HO5.out, hsz5, by show _ = _; rw [HFIN.out]; simp⟩
                    case measure => simp [intOf]; omega
                  · have hcn : (cap - (x + 1) = 0) = False := eq_false (by omega)
                    have hcn2 : (cap = x + 1) = False := eq_false hcap
                    clear hcap
                    go_wp2_with fail
                    go_still_tail 8, (by kernel_rfl)
                    change wpList _ _ _ _ _ w5.drew
                    clear k7 k9
                    go_wp2_with (at_builtin; go_must (refine Lib.wpList_append_run _ rfl _ _ 30 30 rfl _ _ rfl rfl _ w5.drew (hcut _ _) ?_))
                    clear k1 k2 k3 k5 k6 k8 g1 g2' hcn hcn2
                    go_wp2_with fail
                    go_roundw
                    case rel => exact ⟨j + 1, h, x, ls.eraseIdx x, outs ++ [y], by omega, by go_num, by rw [HXL.out], by rw [HEL.out, hjL], HA7.out, by simpa using HOWN5.out, HNE5.out, HB5.out, HO5.out, hsz5, by show _ = _; rw [HFIN.out]; simp⟩
                    case measure => simp [intOf]; omega
              · obtain rfl : j = i := by omega
                have hf := hfin.out
                rw [List.drop_eq_nil_of_le (by rw [digs_len]; exact Nat.le_refl _)] at hf
                have hf2 : atL j r = outs := by rw [hf, pick.eq_def]; cases ls <;> simp
                have HR := Lib.hid (Rd.own hown)
                have HNB : Hid (∀ b, u10.ownBlock = some b → w.heap.size ≤ b) := fun b hb => by rw [HG.out]; have := hown.lt b hb; omega
                rw [← hf2] at HR
                have HBE := Lib.hid hbel
                clear hown hbel ho ha hf hf2 hfin hne
                go_wp2_with fail
                go_ret2
                exact ⟨by rw [HG.out]; exact HBE.out, HX.out _ _ HR.out HNB.out⟩
end Go.Proofs.YthaiopgmncnekaaDoor.Cyc
