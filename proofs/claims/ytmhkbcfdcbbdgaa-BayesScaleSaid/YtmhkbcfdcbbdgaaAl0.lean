/- bayes.Next and bayes.Best at the inputs of the test ahead of each law. No condition. -/
import Derived.Test.YtmhkbcfdcbbdgaaSee
set_option linter.unusedSimpArgs false
set_option linter.unusedVariables false
namespace Go.Proofs.Ytmhkbcfdcbbdgaa
open Go.RowKit
def m0 : List (List Int) := [[1, 3], [2, 2]]
theorem wr0 : wrF [1, 1] m0 = 0 := by decide +kernel
theorem e11 : seeE [1, 1] m0 [1, 1] = 0 := seeE_ok wr0 (by decide) (by unfold Seen; decide)
theorem e00 : seeE [1, 1] m0 [] = 0 := seeE_ok wr0 (by decide) (by unfold Seen; decide)
theorem e10 : seeE [1, 1] m0 [0] = 0 := seeE_ok wr0 (by decide) (by unfold Seen; decide)
theorem t11 : tabI 2 (seeT [1, 1] m0 [1, 1]) = [9, 4] := by decide +kernel
theorem t00 : tabI 2 (seeT [1, 1] m0 []) = [1, 1] := by decide +kernel
theorem t10 : tabI 2 (seeT [1, 1] m0 [0]) = [1, 2] := by decide +kernel
def nx (k s : Nat) : Nat := match k with
  | 0 => 0
  | k + 1 => nx k s + sg m0 k s
theorem nx2 : tabI 2 (lw (nx 2) 2) = [3, 5] := by decide +kernel
theorem sg0 : ∀ k, k < 2 → ∀ s, s < 2 → (m0.getD k []).getD s 0 = (sg m0 k s : Int) ∧ sg m0 k s ≤ 3 ∧ nx k s ≤ 10 ∧ (m0.getD k []).length = 2 := by decide
theorem nxle : ∀ s, nx 2 s ≤ 10 := fun s => by
  rcases s with _ | _ | s
  · decide
  · decide
  · simp [nx, sg, m0, nd, List.getD_eq_getElem?_getD]
theorem ones : ∀ k, k < 2 → ([1, 1] : List Int).getD k 0 = 1 := by decide
set_option maxHeartbeats 1600000 in
theorem next_one (v v2 v3 : Value) (w : World) (h : Rd w v [1, 1]) (h2 : RdM w v2 m0) (h3 : Rd w v3 []) :
    Calls Try.prog 16 #[v, v2, v3] w fun e w' => Below w.heap.size w w' ∧ ∃ u, e = .returned (.tuple #[u, .int .i64 0]) ∧ Rd w' u [3, 5] := by
  obtain ⟨i0, hinfo, hz0, hz1, hz2⟩ := info_parts Try.info3t
  have HS := Lib.hid (see_any v v2 v3 [1, 1] m0 [] w h h2 h3)
  obtain ⟨a2, cap2, rfl, hlc2, hcm2, hop2⟩ := h2.open
  obtain ⟨b2, off2, U, rfl, hbl2, hc2⟩ := hop2 (by decide)
  have HC2 := Lib.hid hc2
  rw [show m0.length = 2 from rfl] at HC2 hlc2 HS ⊢
  clear h h2 h3 hop2 hc2
  go_enter Try.func16, Try.ntmps16
  go_wp2_with fail
  refine HS.out.mono ?_
  rintro e w1 ⟨hb1, hp⟩
  obtain ⟨u, rfl, hu⟩ := hp.2 e00
  rw [show ([1, 1] : List Int).length = 2 from rfl, t00] at hu
  have HB1 := Lib.hid hb1
  obtain ⟨a, cap, rfl, hlc, hcm, hop⟩ := hu.open
  simp only [List.length_cons, List.length_nil, Nat.zero_add, Nat.reduceAdd] at hlc hop
  obtain ⟨b, off, rfl, hbl, hc⟩ := hop 0 (by omega)
  have HC := Lib.hid hc
  have d0 := (World.cell?_of_block (hb1.block b2 hbl2)).trans (HC2.out 0 (by omega)).1
  rw [Nat.add_zero] at d0
  obtain ⟨a0, q0, hu0, -, -, -⟩ := (HC2.out 0 (by omega)).2.open
  rw [hu0, show (m0.getD 0 []).length = 2 from rfl] at d0
  have b2' : i0.bytes * 2 ≤ 281474976710656 := by rw [hz2]; omega
  have b3' : 2 ≤ maxLen := by unfold maxLen; omega
  clear hu0 hb1 hp hu hop hc HS
  go_wp2_with (refine wpList_make_full _ rfl _ _ 22 rfl w1.heap.size 3 i0 (.int .i64 0) 1 Try.underlying22 hinfo hz0 hz1 .i64 .i64 _ _ 2 rfl rfl ?hL ?hC b2' b3' (Nat.le_refl _) ?_)
  case hL => simp
  case hC => simp
  intro w3 hown hgr
  have hb3 := ((Below.refl w1.heap.size w1).grown hgr (Nat.le_refl _) (fun k hk => by cases hk))
  have HB3 := Lib.hid hb3
  have HO := Lib.hid (OC.made (g := w1.heap.size) hown)
  obtain ⟨base, hbase⟩ : ∃ base, w1.heap.size = base := ⟨_, rfl⟩
  rw [hbase] at HB3 HO hbl ⊢
  have HBS := Lib.hid hbase
  clear hown hgr b2' b3' hb3 d0 hbase
  go_wp2_with fail
  go_loopw [32, 11, 12, 13, 14] (fun iv _ _ _ _ wr => ∃ k : Nat, k ≤ 2 ∧ iv = .int .i64 k ∧ Below base w1 wr ∧ OC wr base base 2 2 (nx k)) (fun iv _ _ _ _ _ => 2 - (intOf iv).toNat)
  case atStart => exact ⟨0, by omega, rfl, HB3.out, HO.out⟩
  case round =>
    clear HB3 HO
    obtain ⟨k, hk, rfl, hbel, ho⟩ := hrel
    by_cases hlt : k < 2
    · have HBW := Lib.hid (HB1.out.trans (hbel.mono (by rw [← HBS.out]; exact HB1.out.size)))
      have dk := (World.cell?_of_block (hbel.block b hbl)).trans (HC.out k (by omega))
      rw [ones k hlt] at dk
      have d1 := (World.cell?_of_block (HBW.out.block b2 hbl2)).trans (HC2.out k hlt).1
      obtain ⟨ak, qk, huk, hqk, hqkk, hopk⟩ := (HC2.out k hlt).2.open
      rw [huk] at d1
      rw [(sg0 k hlt 0 (by omega)).2.2.2] at hqk hopk d1
      obtain ⟨b4, o4, rfl, hbl4, hc4⟩ := hopk 0 (by omega)
      have HC4 := Lib.hid hc4
      have HBE := Lib.hid hbel
      have HO := Lib.hid ho
      clear hc4 hopk huk hbel ho
      go_wp2_with fail
      clear dk d1
      go_loopw [42, 13, 14] (fun iv _ _ wr => ∃ s : Nat, s ≤ 2 ∧ iv = .int .i64 s ∧ Below base w1 wr ∧ OC wr base base 2 2 (fun j => if j < s then nx (k + 1) j else nx k j)) (fun iv _ _ _ => 2 - (intOf iv).toNat)
      case atStart => exact ⟨0, by omega, rfl, HBE.out, HO.out.congr (fun j _ => by rw [if_neg (by omega)])⟩
      case round =>
        clear HBE HO HBW
        obtain ⟨s, hs, rfl, hbel, ho⟩ := hrel
        by_cases hls : s < 2
        · have HBW := Lib.hid (HB1.out.trans (hbel.mono (by rw [← HBS.out]; exact HB1.out.size)))
          have co := ho.get s hls
          rw [if_neg (Nat.lt_irrefl s)] at co
          have cf := ho.frozen s
          have cr := (World.cell?_of_block (HBW.out.block b4 hbl4)).trans (HC4.out s hls)
          obtain ⟨g1, g2, g3, g4⟩ := sg0 k hlt s hls
          rw [g1] at cr
          have HST := Lib.hid (ho.set s (nx k s + sg m0 k s))
          have HBS2 := Lib.hid (hbel.setCell (show base ≤ (⟨base, s, none⟩ : Addr).block from Nat.le_refl _) (.int .i64 ((nx k s + sg m0 k s : Nat) : Int)))
          rw [Int.natCast_add] at HST HBS2
          clear ho hbel g1 g4
          have HNX : Hid (nx k s + sg m0 k s = nx (k + 1) s) := rfl
          generalize nx k s = x at *
          generalize sg m0 k s = y at *
          go_wp2_with fail
          exact ⟨⟨s + 1, by omega, by go_num, HBS2.out, HST.out.congr (fun j hj => by
            by_cases e1 : j = s
            · subst e1; rw [if_pos rfl, if_pos (by omega), HNX.out]
            · rw [if_neg e1]
              by_cases e2 : j < s
              · rw [if_pos e2, if_pos (by omega)]
              · rw [if_neg e2, if_neg (by omega)])⟩, by simp [intOf]; omega⟩
        · obtain rfl : s = 2 := by omega
          have HBE := Lib.hid hbel
          have HO := Lib.hid (ho.congr (f' := nx (k + 1)) (fun j hj => by rw [if_pos hj]))
          clear ho hbel
          go_wp2_with fail
          go_roundw
          case rel => exact ⟨k + 1, by omega, by go_num, HBE.out, HO.out⟩
          case measure => simp [intOf]; omega
    · obtain rfl : k = 2 := by omega
      have HL := Lib.hid (low_ok (nx 2) 2 2 base base 10 (by omega) nxle wr (by omega) ho (Nat.le_refl _) (by unfold maxLen; omega))
      have HBE := Lib.hid hbel
      clear ho hbel
      go_wp2_with fail
      refine HL.out.mono ?_
      rintro e w5 ⟨rfl, hb5, ho5⟩
      have HB5 := Lib.hid (HB1.out.trans ((HBE.out.trans hb5).mono (by rw [← HBS.out]; exact HB1.out.size)))
      have hr := ho5.rd
      rw [nx2] at hr
      have HR := Lib.hid hr
      clear hr hb5 ho5
      go_wp2_with fail
      go_ret2
      exact ⟨HB5.out, _, rfl, HR.out⟩
set_option maxHeartbeats 1600000 in
theorem best_one (v v2 v3 : Value) (w : World) (h : Rd w v [1, 1]) (h2 : RdM w v2 m0) (h3 : Rd w v3 [0]) :
    Calls Try.prog 17 #[v, v2, v3] w fun e w' => Below w.heap.size w w' ∧ e = .returned (.tuple #[.int .i64 1, .int .i64 0]) := by
  have HS := Lib.hid (see_any v v2 v3 [1, 1] m0 [0] w h h2 h3)
  clear h h2 h3
  go_enter Try.func17, Try.ntmps17
  go_wp2_with fail
  refine HS.out.mono ?_
  rintro e w1 ⟨hb1, hp⟩
  obtain ⟨u, rfl, hu⟩ := hp.2 e10
  rw [show ([1, 1] : List Int).length = 2 from rfl, t10] at hu
  have HB1 := Lib.hid hb1
  obtain ⟨a, cap, rfl, hlc, hcm, hop⟩ := hu.open
  simp only [List.length_cons, List.length_nil, Nat.zero_add, Nat.reduceAdd] at hlc hop
  obtain ⟨b, off, rfl, hbl, hc⟩ := hop 0 (by omega)
  have c0 := hc 0 (by omega)
  have c1 := hc 1 (by omega)
  simp only [List.getD_cons_zero, List.getD_cons_succ, Nat.add_zero] at c0 c1
  clear hb1 hp hu hop hc HS
  go_wp2_with fail
  refine wp_loop_rounds 3 ?_
  rw [rounds_succ]
  go_wp2_with fail
  rw [rounds_succ]
  go_wp2_with fail
  rw [rounds_succ]
  go_wp2_with fail
  go_ret2
  exact ⟨HB1.out, rfl⟩
end Go.Proofs.Ytmhkbcfdcbbdgaa
