/- bayes.See: what it answers. No condition. -/
import Derived.Test.YtmhkbcfdcbbdgaaWrong
import Derived.Test.YtmhkbcfdcbbdgaaClone
import Derived.RegionTactic
import Derived.BigRegion
set_option linter.unusedSimpArgs false
set_option linter.unusedVariables false
namespace Go.Proofs.Ytmhkbcfdcbbdgaa
open Go.RowKit
/-- How likely the k-th thing shows the sign s. -/
def sg (zss : List (List Int)) (k s : Nat) : Nat := nd (zss.getD k []) s
def stp (n : Nat) (zss : List (List Int)) (f : Nat → Nat) (s : Nat) : Nat → Nat := lw (fun k => f k * sg zss k s) n
def stF (n : Nat) (zss : List (List Int)) : (Nat → Nat) → List Int → (Nat → Nat)
  | f, [] => f
  | f, s :: ns => stF n zss (stp n zss f s.toNat) ns
def Seen (n0 : Nat) (ns : List Int) : Prop := ∀ i, i < ns.length → 0 ≤ ns.getD i 0 ∧ ns.getD i 0 < n0
open Classical in
noncomputable def seeE (zs : List Int) (zss : List (List Int)) (ns : List Int) : Nat :=
  if wrF zs zss ≠ 0 then wrF zs zss else if 12 < ns.length then 2 else if Seen (zss.getD 0 []).length ns then 0 else 3
def seeT (zs : List Int) (zss : List (List Int)) (ns : List Int) : Nat → Nat := lw (stF zs.length zss (nd zs) ns) zs.length
def SeePost (zs : List Int) (zss : List (List Int)) (ns : List Int) (e : Ending) (w' : World) : Prop :=
  (seeE zs zss ns ≠ 0 → e = .returned (.tuple #[.slice none 0 0, .int .i64 (seeE zs zss ns : Nat)])) ∧
  (seeE zs zss ns = 0 → ∃ u, e = .returned (.tuple #[u, .int .i64 0]) ∧ Rd w' u (tabI zs.length (seeT zs zss ns)))
theorem seeE_bad {zs zss ns} (h : wrF zs zss ≠ 0) : seeE zs zss ns = wrF zs zss := by unfold seeE; rw [if_pos h]
theorem seeE_many {zs zss ns} (h : wrF zs zss = 0) (h2 : 12 < ns.length) : seeE zs zss ns = 2 := by unfold seeE; rw [if_neg (by omega), if_pos h2]
theorem seeE_none {zs zss ns} (h : wrF zs zss = 0) (h2 : ¬ 12 < ns.length) (h3 : ¬ Seen (zss.getD 0 []).length ns) : seeE zs zss ns = 3 := by unfold seeE; rw [if_neg (by omega), if_neg h2, if_neg h3]
theorem seeE_ok {zs zss ns} (h : wrF zs zss = 0) (h2 : ¬ 12 < ns.length) (h3 : Seen (zss.getD 0 []).length ns) : seeE zs zss ns = 0 := by unfold seeE; rw [if_neg (by omega), if_neg h2, if_pos h3]
theorem pow9 {i : Nat} (h : i ≤ 12) : 1000 * 9 ^ i ≤ 282429536481000 := by
  have : 9 ^ i ≤ 9 ^ 12 := Nat.pow_le_pow_right (by decide) h
  omega
theorem sg_le {zs zss} (h : OkB zs zss) (k s : Nat) : sg zss k s ≤ 9 := by
  unfold sg
  by_cases hk : k < zs.length
  · obtain ⟨_, _, _, h4⟩ := h.2.2.2 k hk
    by_cases hs : s < (zss.getD k []).length
    · have := h4 s hs; unfold nd; omega
    · rw [nd_out (by omega)]; omega
  · rw [show zss.getD k [] = [] by rw [List.getD_eq_getElem?_getD, List.getElem?_eq_none (by have := h.1; omega)]; rfl, nd_out (by simp)]; omega
theorem nd_le {zs zss} (h : OkB zs zss) (k : Nat) : nd zs k ≤ 1000 := by
  by_cases hk : k < zs.length
  · obtain ⟨_, h2, _⟩ := h.2.2.2 k hk
    unfold nd; omega
  · rw [nd_out (by omega)]; omega
theorem sg_cell {zs zss} (h : OkB zs zss) {k s : Nat} (hk : k < zs.length) (hs : s < (zss.getD 0 []).length) : (zss.getD k []).getD s 0 = (sg zss k s : Int) := by
  obtain ⟨_, _, h3, h4⟩ := h.2.2.2 k hk
  have := h4 s (by omega)
  unfold sg nd; omega
set_option maxHeartbeats 3200000 in
theorem see_any (v v2 v3 : Value) (zs : List Int) (zss : List (List Int)) (ns : List Int) (w : World) (h : Rd w v zs) (h2 : RdM w v2 zss) (h3 : Rd w v3 ns) :
    Calls Try.prog 9 #[v, v2, v3] w fun e w' => Below w.heap.size w w' ∧ SeePost zs zss ns e w' := by
  obtain ⟨i0, hinfo, hz0, hz1, hz2⟩ := info_parts Try.info3t
  have HW := Lib.hid (wrong_any v v2 zs zss w h h2)
  obtain ⟨a, cap, rfl, hlc, hcm, hop⟩ := h.open
  obtain ⟨a2, cap2, rfl, hlc2, hcm2, hop2⟩ := h2.open
  obtain ⟨a3, cap3, rfl, hlc3, hcm3, hop3⟩ := h3.open
  have HOP := Lib.hid hop
  have HOP2 := Lib.hid hop2
  have HOP3 := Lib.hid hop3
  clear h h2 h3 hop hop2 hop3
  by_cases k1 : wrF zs zss = 0
  · have hok := wrF_zero.1 k1
    by_cases k2 : 12 < ns.length
    · have HE := Lib.hid (seeE_many (ns := ns) k1 k2)
      rw [k1] at HW
      clear k1 hok
      go_enter Try.func9, Try.ntmps9
      go_wp2_with fail
      refine HW.out.mono ?_
      rintro e w1 ⟨rfl, q, rfl⟩
      go_wp2_with fail
      go_ret2
      exact ⟨(Below.refl _ _).drewN _, fun _ => by rw [HE.out]; rfl, fun h => by rw [HE.out] at h; cases h⟩
    · have HE0 := Lib.hid (fun h3 => seeE_ok (ns := ns) k1 k2 h3)
      have HE3 := Lib.hid (fun h3 => seeE_none (ns := ns) k1 k2 h3)
      rw [k1] at HW
      have HOK := Lib.hid hok
      obtain ⟨hl1, hn1, hn2, -⟩ := hok
      have HTN := Lib.hid (tab_nd (zs := zs) fun i hi => (HOK.out.2.2.2 i hi).1)
      have HND := Lib.hid (nd_le HOK.out)
      have HSG := Lib.hid (sg_le HOK.out)
      have HSC := Lib.hid (fun k s hk hs => sg_cell (k := k) (s := s) HOK.out hk hs)
      have HRL : Hid (∀ k, k < zs.length → (zss.getD k []).length = (zss.getD 0 []).length) := fun k hk => (HOK.out.2.2.2 k hk).2.2.1
      rw [← hl1] at HOP2 hlc2 HW ⊢
      obtain ⟨n0, hn0⟩ : ∃ n0, (zss.getD 0 []).length = n0 := ⟨_, rfl⟩
      rw [hn0] at HE0 HE3 HSC HRL
      have HN0 := Lib.hid hn0
      obtain ⟨b, off, rfl, hbl, hc⟩ := HOP.out 0 (by omega)
      obtain ⟨b2, off2, U, rfl, hbl2, hc2⟩ := HOP2.out (by omega)
      have HC := Lib.hid hc
      have HC2 := Lib.hid hc2
      clear k1 hc hc2 hl1 hn0 HOP HOP2
      generalize hn : zs.length = n at *
      have HN := Lib.hid hn
      clear hn
      go_enter Try.func9, Try.ntmps9
      go_wp2_with fail
      refine HW.out.mono ?_
      rintro e w1 ⟨rfl, q, rfl⟩
      have HS1 : Hid ((w.drewN q).heap.size = w.heap.size) := rfl
      have HB1 : Hid (Below w.heap.size w (w.drewN q)) := (Below.refl _ _).drewN q
      have HC1 : Hid (∀ j, j < n → (w.drewN q).cell? ⟨b, off + j, none⟩ = some (.int .i64 (zs.getD j 0))) := HC.out
      have hbl1 : b < (w.drewN q).heap.size := hbl
      clear HW
      generalize w.drewN q = w1 at *
      go_wp2_with (at_builtin; go_must (refine wpList_append_own _ rfl _ _ 22 rfl w1.heap.size 3 i0 (.int .i64 0) 1 8 Try.underlying22 hinfo hz0 hz1 hz2 rfl (by decide) _ 0 [] rfl ?hown ⟨b, off, none⟩ n cap (zs.map (Value.int .i64)) rfl ?hl ?hnews ?h1 ?h63 ?hby ?hbs ?_))
      case hown => exact World.ownsRow_made (w := w1) (base := w1.heap.size) (e := 3) (size := 1) #[] 0 (Nat.le_refl _) (Nat.zero_le _) rfl
      case hl => simp [HN.out]
      case hnews =>
        intro j u hu
        have hj : j < n := by
          rcases Nat.lt_or_ge j n with h1 | h1
          · exact h1
          · rw [List.getElem?_eq_none (by rw [List.length_map, HN.out]; exact h1)] at hu; cases hu
        have h4 := HC1.out j hj
        rw [List.getElem?_map, List.getElem?_eq_getElem (by rw [HN.out]; exact hj)] at hu
        simp at hu
        subst hu
        rw [WideShapes.add_plain, World.cell?_alloc_past _ _ _ hbl1]
        rw [List.getD_eq_getElem?_getD, List.getElem?_eq_getElem (by rw [HN.out]; exact hj), Option.getD_some] at h4
        exact h4
      case h1 => intro u hu; simp at hu; obtain ⟨x, _, rfl⟩ := hu; rfl
      case h63 => unfold maxLen; omega
      case hby => omega
      case hbs => simp
      intro v' w2 hown hgr _
      have hB : Below w1.heap.size w1 w2 := ((Below.refl _ _).alloc (Nat.le_refl _) _).grown hgr (by simp) (fun k hk => by simp [Value.ownBlock] at hk; omega)
      have HB2 := Lib.hid hB
      obtain ⟨g, c9, rfl, h9, h91, h92, h93, -⟩ := own_open hown (by omega)
      have hoc : OC w2 w1.heap.size g n c9 (nd zs) := by
        unfold OC
        have e := HTN.out
        rw [← e]
        exact hown
      have HO := Lib.hid hoc
      have hbase := hoc.lt
      have hc9 : c9 ≤ 9223372036854775807 := by unfold maxLen at h91; exact h91
      clear hgr hB hown hoc h91 h93
      have HLOW := Lib.hid (fun (f : Nat → Nat) hf w ho => low_ok f n c9 w1.heap.size g 282429536481000 (by omega) hf w (by omega) ho h9 (by unfold maxLen; omega))
      have hlc3b : ns.length ≤ 12 := by omega
      go_wp2_with fail
      go_loopw [27, 9, 11, 12] (fun iv ov _ _ wr => ∃ (i : Nat) (f : Nat → Nat), i ≤ ns.length ∧ iv = .int .i64 i ∧ ov = .slice (some ⟨g, 0, none⟩) n c9 ∧ Below w1.heap.size w1 wr ∧ OC wr w1.heap.size g n c9 f
        ∧ Hid (stF n zss (nd zs) ns = stF n zss f (ns.drop i)) ∧ Hid (∀ k, f k ≤ 1000 * 9 ^ i) ∧ Hid (∀ j, j < i → 0 ≤ ns.getD j 0 ∧ ns.getD j 0 < n0)) (fun iv _ _ _ _ => ns.length - (intOf iv).toNat)
      case atStart => exact ⟨0, nd zs, Nat.zero_le _, rfl, rfl, HB2.out, HO.out, rfl, fun k => by have := HND.out k; simpa using this, fun j hj => absurd hj (Nat.not_lt_zero j)⟩
      case round =>
        clear HO HB2
        obtain ⟨i, f, hi, rfl, rfl, hbel, ho, hst, hle, hall⟩ := hrel
        by_cases hlt : i < ns.length
        · obtain ⟨b3, o3, rfl, hbl3, hc3⟩ := HOP3.out i hlt
          have HBW := Lib.hid (HB1.out.trans (hbel.mono (show w.heap.size ≤ w1.heap.size by rw [HS1.out]; exact Nat.le_refl _)))
          have cs := (World.cell?_of_block (HBW.out.block b3 hbl3)).trans (hc3 i hlt)
          have d0 := (World.cell?_of_block (HBW.out.block b2 hbl2)).trans (HC2.out 0 (by omega)).1
          rw [Nat.add_zero] at d0
          obtain ⟨a0, q0, hu0, -, -, -⟩ := (HC2.out 0 (by omega)).2.open
          rw [hu0, HN0.out] at d0
          have HNS : ∀ (hb : ¬ (0 ≤ ns.getD i 0 ∧ ns.getD i 0 < n0)), Hid (seeE zs zss ns = 3) := fun hb => HE3.out (fun hs => hb (hs i hlt))
          clear hc3 hu0
          obtain ⟨x, hx⟩ : ∃ x, ns.getD i 0 = x := ⟨_, rfl⟩
          rw [hx] at cs HNS
          have HX := Lib.hid hx
          clear hx
          by_cases k3 : 0 ≤ x ∧ x < (n0 : Int)
          · obtain ⟨s, rfl⟩ : ∃ s : Nat, x = s := ⟨x.toNat, by omega⟩
            clear HNS
            have f1 : decide ((s : Int) < 0) = false := decide_eq_false (by omega)
            have f2 : decide ((n0 : Int) ≤ (s : Int)) = false := decide_eq_false (by omega)
            have f3 : decide (n0 ≤ s) = false := decide_eq_false (by omega)
            have hsn : s < n0 := by omega
            have HBE := Lib.hid hbel
            have HO := Lib.hid ho
            clear hbel ho k3
            go_wp2_with fail
            clear cs d0 f1 f2 f3
            go_loopw [43, 12] (fun iv _ wr => ∃ k : Nat, k ≤ n ∧ iv = .int .i64 k ∧ Below w1.heap.size w1 wr ∧ OC wr w1.heap.size g n c9 (fun j => if j < k then f j * sg zss j s else f j)) (fun iv _ _ => n - (intOf iv).toNat)
            case atStart => exact ⟨0, Nat.zero_le _, rfl, HBE.out, HO.out.congr (fun j _ => by rw [if_neg (by omega)])⟩
            case round =>
              clear HBE HO HBW
              obtain ⟨k, hk, rfl, hbel, ho⟩ := hrel
              by_cases hlk : k < n
              · have HBW := Lib.hid (HB1.out.trans (hbel.mono (show w.heap.size ≤ w1.heap.size by rw [HS1.out]; exact Nat.le_refl _)))
                have co := ho.get k hlk
                rw [if_neg (Nat.lt_irrefl k)] at co
                have cf := ho.frozen k
                have d1 := (World.cell?_of_block (HBW.out.block b2 hbl2)).trans (HC2.out k hlk).1
                obtain ⟨ak, qk, huk, hqk, hqkk, hopk⟩ := (HC2.out k hlk).2.open
                rw [huk] at d1
                rw [HRL.out k hlk] at hqk hopk d1
                obtain ⟨b4, o4, rfl, hbl4, hc4⟩ := hopk s hsn
                have cr := (World.cell?_of_block (HBW.out.block b4 hbl4)).trans (hc4 s hsn)
                rw [HSC.out k s hlk hsn] at cr
                have hfk := hle.out k
                have hp9 := pow9 (i := i + 1) (by omega)
                have hsg := HSG.out k s
                have hm : f k * sg zss k s ≤ 1000 * 9 ^ i * 9 := Nat.mul_le_mul hfk hsg
                rw [Nat.mul_assoc, ← Nat.pow_succ] at hm
                have hpr : (f k : Int) * (sg zss k s : Int) = ((f k * sg zss k s : Nat) : Int) := rfl
                have hmb : f k * sg zss k s ≤ 282429536481000 := Nat.le_trans hm hp9
                have hfb : f k ≤ 282429536481000 := Nat.le_trans hfk (pow9 (by omega))
                have HST := Lib.hid (ho.set k (f k * sg zss k s))
                have HBS := Lib.hid (hbel.setCell (show w1.heap.size ≤ (⟨g, k, none⟩ : Addr).block from hbase.1) (.int .i64 ((f k * sg zss k s : Nat) : Int)))
                have HPV : Hid (f k * sg zss k s = f k * sg zss k s) := rfl
                clear ho hbel hc4 hopk huk hfk hp9 hm
                generalize hz : f k * sg zss k s = z at *
                have HZ := Lib.hid hz
                clear hz HPV
                generalize hyy : sg zss k s = y at *
                have HYY := Lib.hid hyy
                clear hyy
                generalize hxx : f k = x at *
                have HXX := Lib.hid hxx
                clear hxx
                go_wp2_with fail
                go_region
                clear co cf d1 cr
                go_wp2_with fail
                go_roundw
                case rel =>
                  refine ⟨k + 1, by omega, by go_num, HBS.out.drew, ?_⟩
                  refine OC.congr (show OC (wr.setCell ⟨g, k, none⟩ (.int .i64 (z : Int))) w1.heap.size g n c9 _ from HST.out) (fun j hj => ?_)
                  by_cases e1 : j = k
                  · subst e1; rw [if_pos rfl, if_pos (by omega), ← HZ.out, HYY.out, HXX.out]
                  · rw [if_neg e1]
                    by_cases e2 : j < k
                    · rw [if_pos e2, if_pos (by omega)]
                    · rw [if_neg e2, if_neg (by omega)]
                case measure => simp [intOf]; omega
              · obtain rfl : k = n := by omega
                have HO := Lib.hid (ho.congr (f' := fun j => f j * sg zss j s) (fun j hj => by rw [if_pos hj]))
                have HBE := Lib.hid hbel
                have hle2 : ∀ j, f j * sg zss j s ≤ 1000 * 9 ^ (i + 1) := fun j => by
                  have := Nat.mul_le_mul (hle.out j) (HSG.out j s)
                  rw [Nat.mul_assoc, ← Nat.pow_succ] at this
                  exact this
                have HL2 := Lib.hid hle2
                have HL := Lib.hid (HLOW.out (fun j => f j * sg zss j s) (fun j => Nat.le_trans (hle2 j) (pow9 (by omega))) wr HO.out)
                clear ho hbel hle2
                go_wp2_with fail
                refine HL.out.mono ?_
                rintro e w5 ⟨rfl, hb5, ho5⟩
                have HB5 := Lib.hid (HBE.out.trans hb5)
                have HO5 := Lib.hid ho5
                clear hb5 ho5
                go_wp2_with fail
                go_roundw
                case rel =>
                  refine ⟨i + 1, stp k zss f s, by omega, by go_num, rfl, HB5.out, HO5.out, ?_, fun j => Nat.le_trans (lw_le _ _ _) (HL2.out j), fun j hj => ?_⟩
                  · show _ = _
                    rw [hst.out, List.drop_eq_getElem_cons hlt, stF]
                    have := HX.out
                    rw [List.getD_eq_getElem?_getD, List.getElem?_eq_getElem hlt, Option.getD_some] at this
                    rw [this, Int.toNat_natCast]
                  · by_cases e : j = i
                    · subst e; rw [HX.out]; omega
                    · exact hall.out j (by omega)
                case measure => simp [intOf]; omega
          · have HE := HNS k3
            have HBE := Lib.hid (HBW.out)
            clear HNS hbel ho
            by_cases h0 : x < 0
            · have f1 : decide (x < 0) = true := decide_eq_true h0
              clear k3
              go_wp2_with fail
              go_ret2
              exact ⟨HBE.out, fun _ => by rw [HE.out]; rfl, fun h => by rw [HE.out] at h; cases h⟩
            · have f1 : decide (x < 0) = false := decide_eq_false h0
              have f2 : decide ((n0 : Int) ≤ x) = true := decide_eq_true (by omega)
              clear k3
              go_wp2_with fail
              go_ret2
              exact ⟨HBE.out, fun _ => by rw [HE.out]; rfl, fun h => by rw [HE.out] at h; cases h⟩
        · obtain rfl : i = ns.length := by omega
          have HP9 : Hid (∀ k, f k ≤ 282429536481000) := fun k => Nat.le_trans (hle.out k) (pow9 hlc3b)
          have HL := Lib.hid (HLOW.out f HP9.out wr ho)
          have HE := Lib.hid (HE0.out hall.out)
          have hst2 := hst.out
          rw [List.drop_length] at hst2
          have HT : Hid (tabI n (seeT zs zss ns) = tabI n (lw f n)) := by
            show _ = _
            unfold seeT
            rw [HN.out, hst2, stF]
          have HBE := Lib.hid hbel
          clear hbel ho hst2 hst hall hle
          go_wp2_with fail
          refine HL.out.mono ?_
          rintro e w5 ⟨rfl, hb5, ho5⟩
          have HB5 := Lib.hid ((HB1.out.trans ((HBE.out.trans hb5).mono (by rw [HS1.out]; exact Nat.le_refl _))))
          have HO5 := Lib.hid ho5
          clear hb5 ho5
          go_wp2_with fail
          go_ret2
          refine ⟨HB5.out, fun h => absurd HE.out h, fun _ => ⟨_, rfl, ?_⟩⟩
          show Rd w5 (.slice (some ⟨g, 0, none⟩) n c9) (tabI zs.length (seeT zs zss ns))
          rw [HN.out, HT.out]
          exact HO5.out.rd
  · have HE := Lib.hid (seeE_bad (ns := ns) k1)
    generalize wrF zs zss = x at *
    have f1 : ((x : Int) == 0) = false := by rw [beq_eq_false_iff_ne]; omega
    go_enter Try.func9, Try.ntmps9
    go_wp2_with fail
    refine HW.out.mono ?_
    rintro e w1 ⟨rfl, q, rfl⟩
    go_wp2_with fail
    go_ret2
    exact ⟨(Below.refl _ _).drewN _, fun _ => by rw [HE.out]; rfl, fun h => by rw [HE.out] at h; exact absurd h k1⟩
end Go.Proofs.Ytmhkbcfdcbbdgaa
