/- pool.Smaller: what it answers, where draws are as they must be. No condition. -/
import Derived.Test.YtimknmofcnhbpaaDel
import Derived.Deep.LoopGhost
import Derived.Deep.RegionWith
set_option linter.unusedSimpArgs false
set_option linter.unusedVariables false
namespace Go.Proofs.Ytimknmofcnhbpaa
open Go.RowKit
theorem Rd.drop {w : World} {a : Option Addr} {n c k : Nat} {zs : List Int} (h : Rd w (.slice a n c) zs) (hk : k ≤ n) :
    (¬ c = k → Rd w (.slice (Option.map (fun x => x.add k) a) (n - k) (c - k)) (zs.drop k)) ∧ (c = k → Rd w (.slice a 0 0) (zs.drop k)) := by
  obtain ⟨a', c', he, h1, h2, h3⟩ := h
  cases he
  have hl : (zs.drop k).length = zs.length - k := List.length_drop
  refine ⟨fun hc => ⟨_, c - k, by rw [hl], by omega, by omega, ?_⟩, fun hc => ?_⟩
  · rcases h3 with rfl | ⟨b, off, rfl, hlt, hcell⟩
    · left; simp
    · right
      refine ⟨b, off + k, by simp [Addr.add], hlt, fun i hi => ?_⟩
      rw [Nat.add_assoc, hcell (k + i) (by omega)]
      simp [List.getD_eq_getElem?_getD, List.getElem?_drop]
  · subst hc
    have e : zs.drop c = [] := List.drop_eq_nil_of_le (by omega)
    rw [e]
    exact ⟨a, 0, rfl, Nat.le_refl _, Nat.zero_le _, .inl rfl⟩
/-- Draws that take out one after the other. -/
def SmD (n room : Nat) (ds : List Int) : Prop := n - room ≤ ds.length ∧ ∀ i, i < n - room → 0 ≤ ds.getD i 0 ∧ ds.getD i 0 < (n : Int) - i
set_option maxHeartbeats 1600000 in
set_option maxRecDepth 20000 in
theorem sm_ok (r c : Int) (room : Nat) (v vd : Value) (zs ds : List Int) (w : World) (h1 : Rd w v zs) (h2 : Rd w vd ds) (hr : RightP r c zs.length) (hm1 : 1 ≤ room) (hm2 : (room : Int) ≤ r) (hd : SmD zs.length room ds) :
    Calls Try.prog 11 #[.agg #[.int .i64 r, .int .i64 c, v], .int .i64 room, vd] w fun e w' => Below w.heap.size w w' ∧ ∃ v', e = .returned (.tuple #[.agg #[.int .i64 room, .int .i64 c, v'], .int .i64 0]) ∧ w'.ownsRow w.heap.size 3 1 v' (zs.length - (zs.length - room)) ((smL zs ds (zs.length - room)).map (Value.int .i64)) := by
  obtain ⟨a, cap, rfl, hl1, hl2⟩ := h1.slice
  have HV := Lib.hid h1
  have HD := Lib.hid h2
  clear h1 h2
  have HR := Lib.hid (right_any r c a zs.length cap)
  rw [decide_eq_true hr] at HR
  obtain ⟨hr1, hr2, hr3, hr4, hr5⟩ := hr
  have HSM := Lib.hid hd
  clear hd
  have HSL : Hid (∀ j, j ≤ zs.length - room → (smL zs ds j).length = zs.length - j) := fun j hj => (smL_len j (fun i hi => HSM.out.2 i (by omega))).1
  have HCL : Hid (∀ w, Rd w (.slice a zs.length cap) zs → Calls Try.prog 14 #[.slice a zs.length cap] w fun e w' => ∃ v', e = .returned v' ∧ w'.ownsRow w.heap.size 3 1 v' zs.length (zs.map (Value.int .i64)) ∧ Below w.heap.size w w') := fun w h => clone_any _ zs w h (by omega)
  have HZ : Hid (smL zs ds 0 = zs) := rfl
  obtain ⟨n, hn⟩ : ∃ n, zs.length = n := ⟨_, rfl⟩
  rw [hn] at HV HR HSM HSL HCL hl1 hr5 ⊢
  clear hn
  have q1 : decide ((room : Int) < 1) = false := decide_eq_false (by omega)
  have q2 : decide (r < (room : Int)) = false := decide_eq_false (by omega)
  have hn4 : n ≤ 400 := by omega
  clear hr5
  obtain ⟨W, hW⟩ : ∃ W : World, W = w := ⟨_, rfl⟩
  go_enter Try.func11, Try.ntmps11
  go_wp2_with fail
  refine (HR.out _).mono ?_
  rintro e w1 ⟨rfl, hb⟩
  have HB := Lib.hid ((((Below.refl w.heap.size w).alloc (Nat.le_refl _) (.cells #[.int .i64 r, .int .i64 c, .slice a n cap] 27)).alloc (by simp) (.cells #[.int .i64 0, .int .i64 0, .slice none 0 0] 27)).trans (hb.mono (by simp; omega)))
  have A0 : BX w1 w.heap.size r c (.slice a n cap) := BX.below (w := (w.alloc (.cells #[.int .i64 r, .int .i64 c, .slice a n cap] 27)).alloc (.cells #[.int .i64 0, .int .i64 0, .slice none 0 0] 27)) ((BX.new w r c (.slice a n cap)).below (B := w.heap.size + 1) ((Below.refl _ _).alloc (by simp) _) (by omega)) hb (by simp; omega)
  have A1 : BX w1 (w.heap.size + 1) 0 0 (.slice none 0 0) := BX.below (w := (w.alloc (.cells #[.int .i64 r, .int .i64 c, .slice a n cap] 27)).alloc (.cells #[.int .i64 0, .int .i64 0, .slice none 0 0] 27)) (by simpa using BX.new (w.alloc (.cells #[.int .i64 r, .int .i64 c, .slice a n cap] 27)) 0 0 (.slice none 0 0)) hb (by simp)
  have hsz : w.heap.size + 2 ≤ w1.heap.size := by have := hb.size; simp at this; omega
  have HA0 := Lib.hid A0
  have HA1 := Lib.hid A1
  have d0 := A0.c0
  have d1 := A0.c1
  have d2 := A0.c2
  have HW1 := Lib.hid (HV.out.below HB.out (Nat.le_refl _))
  clear hb A0 A1
  go_wp2_with fail
  refine (HCL.out _ HW1.out).mono ?_
  rintro e w2 ⟨v2, rfl, hown, hb2⟩
  have HO2 := Lib.hid hown
  have hs2 := hb2.size
  have HB2 := Lib.hid (HB.out.trans (hb2.mono (by omega)))
  obtain ⟨a2, k2, hv2, -, -⟩ := (Rd.own hown).slice
  have HA02 := Lib.hid (HA0.out.below hb2 (by omega))
  have HA12 := Lib.hid (HA1.out.below hb2 (by omega))
  have hl2 : (zs.length : Nat) = n := by have := hown.1; simpa using this
  rw [hl2] at hv2
  subst hv2
  clear hown hb2 d0 d1 d2 hl2
  have g0 := HA02.out.fr 0
  have g2 := HA02.out.fr 2
  have d0 := HA02.out.c0
  have d1 := HA02.out.c1
  have d2 := HA02.out.c2
  go_wp2_with fail
  obtain ⟨w3, hw3⟩ : ∃ w3, (w2.setCell ⟨w.heap.size, 2, none⟩ (.slice a2 n k2)).setCell ⟨w.heap.size, 0, none⟩ (.int .i64 room) = w3 := ⟨_, rfl⟩
  have HX3 : Hid (BX w3 w.heap.size room c (.slice a2 n k2)) := hw3 ▸ (HA02.out.set2 _).set0 _
  have HE3 : Hid (BX w3 (w.heap.size + 1) 0 0 (.slice none 0 0)) := hw3 ▸ (HA12.out.other (by simp) _).other (by simp) _
  have HO3 : Hid (w3.ownsRow w1.heap.size 3 1 (.slice a2 n k2) n (zs.map (Value.int .i64))) := hw3 ▸ own_store (own_store HO2.out (by show w.heap.size < _; omega) _) (by show w.heap.size < _; omega) _
  have HB3 : Hid (Below w.heap.size w w3) := hw3 ▸ (HB2.out.setCell (Nat.le_refl _) _).setCell (Nat.le_refl _) _
  rw [hw3]
  clear hw3 HA02 HA12 HO2 HB2 d0 d1 d2 g0 g2 hs2
  go_loopg [2] (n - room) (fun m dv wr => ∃ j q mm : Nat, mm = m ∧ j + mm = n - room ∧ q + j = n ∧ Hid (Rd w dv (ds.drop j)) ∧ ∃ ar kr, Hid (BX wr w.heap.size room c (.slice ar q kr)) ∧ Hid (BX wr (w.heap.size + 1) 0 0 (.slice none 0 0)) ∧ Hid (wr.ownsRow w1.heap.size 3 1 (.slice ar q kr) q ((smL zs ds j).map (Value.int .i64))) ∧ Hid (Below w.heap.size w wr))
  case atStart => exact ⟨0, n, _, rfl, by omega, rfl, HD.out, _, _, HX3.out, HE3.out, HO3.out, HB3.out⟩
  case round =>
    clear HX3 HE3 HO3 HB3
    obtain ⟨j, q, m, hmm, hjm, hqj, HDr, ar, kr, HX, HE, HO, HB⟩ := hrel
    have d0 := HX.out.c0
    have d1 := HX.out.c1
    have d2 := HX.out.c2
    by_cases hm : 0 < m
    · obtain ⟨g, cg, hvg, hg1, hg2, hg3, hg4, -⟩ := own_open HO.out (by omega : 0 < q)
      cases hvg
      obtain ⟨ad, cd, rfl, hd1, hd2⟩ := HDr.out.slice
      have hdl : (ds.drop j).length = ds.length - j := List.length_drop
      have hdp : 0 < (ds.drop j).length := by have := HSM.out.1; omega
      obtain ⟨bd, od, rfl, hbd, cd0⟩ := (HDr.out.below HB.out (Nat.le_refl _)).at hdp
      have HDD : Hid ((ds.drop j).getD 0 0 = ds.getD j 0) := by show _ = _; rw [List.getD_eq_getElem?_getD, List.getElem?_drop]; simp [List.getD_eq_getElem?_getD]
      have hdb := HSM.out.2 j (by omega)
      rw [← HDD.out] at hdb
      obtain ⟨dn, hdn⟩ : ∃ dn : Nat, (ds.drop j).getD 0 0 = dn := ⟨((ds.drop j).getD 0 0).toNat, by omega⟩
      rw [hdn] at cd0 hdb HDD
      rw [Nat.add_zero] at cd0
      have HST : Hid (smL zs ds (j + 1) = (smL zs ds j).eraseIdx dn) := by
        show (smL zs ds j).eraseIdx (ds.getD j 0).toNat = _
        rw [← HDD.out]; rfl
      have HDN := HDr.out.drop (k := 1) (by omega)
      rw [List.drop_drop] at HDN
      have HDN' := Lib.hid HDN
      clear HDN hdn
      have hdq : dn < q := by omega
      generalize (ds.drop j).length = p at *
      have hrq : (room : Int) < (q : Int) := by omega
      have f1 : ((p : Int) == 0) = false := by rw [beq_eq_false_iff_ne]; omega
      have f2 : decide ((dn : Int) < 0) = false := decide_eq_false (by omega)
      have f3 : decide ((q : Int) ≤ (dn : Int)) = false := decide_eq_false (by omega)
      have f4 : decide (q ≤ dn) = false := decide_eq_false (by omega)
      have hp1 : (1 : Int) ≤ (p : Int) := by omega
      have hdw : IntKind.i64.wrap ((dn : Int) + 1) = (dn : Int) + 1 := by rw [IntKind.wrap_i64]; omega
      unfold maxLen at hd2
      clear hdl hdb hdp
      go_wp2_with fail
      have HDEL : Hid (∀ w', w'.ownsRow w1.heap.size 3 1 (.slice (some ⟨g, 0, none⟩) q kr) q ((smL zs ds j).map (Value.int .i64)) → Calls Try.prog 20 #[.slice (some ⟨g, 0, none⟩) q kr, .int .i64 dn, .int .i64 ((dn : Int) + 1)] w' fun e w'' => e = .returned (.slice (some ⟨g, 0, none⟩) (q - 1) kr) ∧ w''.ownsRow w1.heap.size 3 1 (.slice (some ⟨g, 0, none⟩) (q - 1) kr) (q - 1) ((smL zs ds (j + 1)).map (Value.int .i64)) ∧ Below w1.heap.size w' w'') := fun w' h => by
        rw [HST.out]
        exact del_own h dn hdq _ rfl
      have hB1 : w.heap.size < w1.heap.size := by omega
      have hB2 : w.heap.size + 1 < w1.heap.size := by omega
      have hcd : ¬ cd = 0 := by omega
      by_cases hc1 : cd = 1
      · subst hc1
        have HDF := Lib.hid (HDN'.out.2 rfl)
        go_region_with ((go_at_call 20; (with_reducible refine (HDEL.out _ (own_drew HO.out)).mono ?_); rintro e w4 ⟨rfl, ho4, hb4⟩; (have f2 := (BX.below (w := wr.drew) HX.out hb4 hB1).fr 2); (have g2 := (BX.below (w := wr.drew) HX.out hb4 hB1).c2)))
        have HXn : Hid (BX (w4.setCell ⟨w.heap.size, 2, none⟩ (.slice (some ⟨g, 0, none⟩) (q - 1) kr)) w.heap.size room c (.slice (some ⟨g, 0, none⟩) (q - 1) kr)) := (BX.below (w := wr.drew) HX.out hb4 hB1).set2 _
        have HEn : Hid (BX (w4.setCell ⟨w.heap.size, 2, none⟩ (.slice (some ⟨g, 0, none⟩) (q - 1) kr)) (w.heap.size + 1) 0 0 (.slice none 0 0)) := (BX.below (w := wr.drew) HE.out hb4 hB2).other (by simp) _
        have HBn : Hid (Below w.heap.size w (w4.setCell ⟨w.heap.size, 2, none⟩ (.slice (some ⟨g, 0, none⟩) (q - 1) kr))) := (HB.out.trans ((undrew hb4).mono (by omega))).setCell (Nat.le_refl _) _
        have HOn : Hid ((w4.setCell ⟨w.heap.size, 2, none⟩ (.slice (some ⟨g, 0, none⟩) (q - 1) kr)).ownsRow w1.heap.size 3 1 (.slice (some ⟨g, 0, none⟩) (q - 1) kr) (q - 1) ((smL zs ds (j + 1)).map (Value.int .i64))) := own_store ho4 hB1 _
        have HDn := HDF
        go_wp2_with fail
        go_roundg (m - 1)
        case measure => omega
        case rel => exact ⟨j + 1, q - 1, _, rfl, by omega, by omega, HDn.out, _, _, HXn.out, HEn.out, HOn.out, HBn.out⟩
      · have HDF := Lib.hid (HDN'.out.1 hc1)
        have hc2 : (cd == 1) = false := by rw [beq_eq_false_iff_ne]; exact hc1
        have hc3 : (cd - 1 == 0) = false := by rw [beq_eq_false_iff_ne]; omega
        have hc4 : ¬ cd - 1 = 0 := by omega
        go_region_with ((go_at_call 20; (with_reducible refine (HDEL.out _ (own_drew HO.out)).mono ?_); rintro e w4 ⟨rfl, ho4, hb4⟩; (have f2 := (BX.below (w := wr.drew) HX.out hb4 hB1).fr 2); (have g2 := (BX.below (w := wr.drew) HX.out hb4 hB1).c2)))
        have HXn : Hid (BX (w4.setCell ⟨w.heap.size, 2, none⟩ (.slice (some ⟨g, 0, none⟩) (q - 1) kr)) w.heap.size room c (.slice (some ⟨g, 0, none⟩) (q - 1) kr)) := (BX.below (w := wr.drew) HX.out hb4 hB1).set2 _
        have HEn : Hid (BX (w4.setCell ⟨w.heap.size, 2, none⟩ (.slice (some ⟨g, 0, none⟩) (q - 1) kr)) (w.heap.size + 1) 0 0 (.slice none 0 0)) := (BX.below (w := wr.drew) HE.out hb4 hB2).other (by simp) _
        have HBn : Hid (Below w.heap.size w (w4.setCell ⟨w.heap.size, 2, none⟩ (.slice (some ⟨g, 0, none⟩) (q - 1) kr))) := (HB.out.trans ((undrew hb4).mono (by omega))).setCell (Nat.le_refl _) _
        have HOn : Hid ((w4.setCell ⟨w.heap.size, 2, none⟩ (.slice (some ⟨g, 0, none⟩) (q - 1) kr)).ownsRow w1.heap.size 3 1 (.slice (some ⟨g, 0, none⟩) (q - 1) kr) (q - 1) ((smL zs ds (j + 1)).map (Value.int .i64))) := own_store ho4 hB1 _
        have HDn := HDF
        go_wp2_with fail
        go_roundg (m - 1)
        case measure => omega
        case rel => exact ⟨j + 1, q - 1, _, rfl, by omega, by omega, HDn.out, _, _, HXn.out, HEn.out, HOn.out, HBn.out⟩
    · have hmz : m = 0 := by omega
      have hrq : (q : Int) ≤ (room : Int) := by omega
      have f0 : decide ((room : Int) < (q : Int)) = false := decide_eq_false (by omega)
      have hj : j = n - room := by omega
      have g0 := HE.out.fr 0
      have g1 := HE.out.fr 1
      have g2 := HE.out.fr 2
      have e0 := HE.out.c0
      have e1 := HE.out.c1
      have e2 := HE.out.c2
      have HO' : Hid (wr.ownsRow w1.heap.size 3 1 (.slice ar q kr) (n - (n - room)) ((smL zs ds (n - room)).map (Value.int .i64))) := by
        have := HO.out
        rw [hj] at this
        rwa [show n - (n - room) = q by omega]
      have hB1 : w.heap.size + 1 < w1.heap.size := by omega
      have HW1 : Hid (w.heap.size ≤ w1.heap.size) := by show _ ≤ _; omega
      clear hj hmz hmm hjm hqj hn4
      go_wp2_with fail
      refine bodyPost_ret (ret_pool rfl _ _ (w.heap.size + 1) rfl (((HE.out.set0 room).set1 c).set2 (.slice ar q kr)) ⟨_, _, _, rfl⟩) rfl ?_
      exact ⟨((HB.out.setCell (Nat.le_succ _) _).setCell (Nat.le_succ _) _).setCell (Nat.le_succ _) _, _, rfl, own_base (own_store (own_store (own_store HO'.out hB1 _) hB1 _) hB1 _) HW1.out⟩
end Go.Proofs.Ytimknmofcnhbpaa
