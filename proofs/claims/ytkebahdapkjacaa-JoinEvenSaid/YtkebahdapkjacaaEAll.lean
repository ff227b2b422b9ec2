/- ref.EAll: what it answers. No condition. -/
import Derived.Test.YtkebahdapkjacaaGrow2
import Derived.Test.YtkebahdapkjacaaConcI
set_option linter.unusedSimpArgs false
set_option linter.unusedVariables false
namespace Go.Proofs.Ytkebahdapkjacaa
open Go.RowKit
/-- All choices of k of n, in their order. -/
def ea : Nat → Nat → List (List Int)
  | _, 0 => [[]]
  | 0, _ + 1 => []
  | n + 1, k + 1 => ea n (k + 1) ++ (ea n k).map (· ++ [(n : Int)])
theorem ea_zero (n : Nat) : ea n 0 = [[]] := by cases n <;> rfl
theorem ea_succ (n k : Nat) : ea (n + 1) (k + 1) = ea n (k + 1) ++ (ea n k).map (· ++ [(n : Int)]) := rfl
theorem ea_none : ∀ n k, n < k → ea n k = []
  | 0, k + 1, _ => rfl
  | n + 1, k + 1, h => by rw [ea_succ, ea_none n (k + 1) (by omega), ea_none n k (by omega)]; rfl
theorem ea_len : ∀ n k, (ea n k).length ≤ 2 ^ n
  | n, 0 => by rw [ea_zero]; exact Nat.one_le_two_pow
  | 0, k + 1 => Nat.zero_le _
  | n + 1, k + 1 => by
    have h1 := ea_len n (k + 1)
    have h2 := ea_len n k
    rw [ea_succ, List.length_append, List.length_map, Nat.pow_succ]; omega
theorem ea_row : ∀ n k, ∀ r ∈ ea n k, r.length = k
  | n, 0, r, h => by rw [ea_zero] at h; simp at h; rw [h]; rfl
  | 0, k + 1, r, h => by cases h
  | n + 1, k + 1, r, h => by
    rw [ea_succ, List.mem_append, List.mem_map] at h
    rcases h with h | ⟨q, hq, rfl⟩
    · exact ea_row n (k + 1) r h
    · rw [List.length_append, ea_row n k q hq]; rfl
set_option maxHeartbeats 1600000 in
set_option maxRecDepth 20000 in
theorem eall_ok : ∀ (k n : Nat) (w : World), n ≤ 9 → k ≤ 9 → Calls Try.prog 7 #[.int .i64 n, .int .i64 k] w fun e w' => Below w.heap.size w w' ∧ ∃ v, e = .returned v ∧ OM w' w.heap.size v (ea n k)
  | 0, n, w, hn, _ => by
    rw [ea_zero]
    go_enter Try.func7, Try.ntmps7
    go_wp2_with fail
    go_ret
    refine ⟨((Below.refl _ _).alloc (Nat.le_refl _) _).alloc (by simp) _, _, rfl, ?_⟩
    refine OM.one (V := .slice (some ⟨w.heap.size, 0, none⟩) 0 0) (r := []) (by simpa using heap_alloc_new (w.alloc (.cells #[] 3)) (.cells #[.slice (some ⟨w.heap.size, 0, none⟩) 0 0] 26)) (by simp) ⟨_, _, rfl, Nat.le_refl _, Nat.zero_le _, (fun h => by cases h), fun h => absurd h (Nat.lt_irrefl 0)⟩
  | k + 1, n, w, hn, hk => by
    have IH := Lib.hid (fun n w hn => eall_ok k n w hn (by omega))
    obtain ⟨i3, hi3, hz0, hz1, hz2⟩ := info_parts Try.info3t
    suffices key : ∀ K : Nat, K = k + 1 → Calls Try.prog 7 #[.int .i64 n, .int .i64 K] w fun e w' => Below w.heap.size w w' ∧ ∃ v, e = .returned v ∧ OM w' w.heap.size v (ea n (k + 1)) from key _ rfl
    intro K hK
    have hk1 : (K : Int) - 1 = (k : Int) := by omega
    have f1 : ((K : Int) == 0) = false := by rw [beq_eq_false_iff_ne]; omega
    have hKl : K ≤ 9 := by omega
    clear hK
    go_enter Try.func7, Try.ntmps7
    go_wp2_with fail
    go_loopw [6, 5] (fun tv ov wr => ∃ t : Nat, k ≤ t ∧ (t ≤ n ∨ t = k) ∧ tv = .int .i64 t ∧ Below w.heap.size w wr ∧ OM wr w.heap.size ov (ea t (k + 1))) (fun tv _ _ => n - (intOf tv).toNat)
    case atStart => exact ⟨k, Nat.le_refl _, .inr rfl, rfl, Below.refl _ _, by rw [ea_none _ _ (Nat.lt_succ_self k)]; exact OM.nil w _⟩
    case round =>
      obtain ⟨t, hkt, htn, rfl, hbel, hom⟩ := hrel
      by_cases hlt : t < n
      · go_wp2_with fail
        refine (IH.out t wr (by omega)).mono ?_
        rintro e w2 ⟨hb2, v2, rfl, hom2⟩
        have HOM := Lib.hid (hom.below hb2 (Nat.le_refl _))
        have HB2 := Lib.hid (hbel.trans (hb2.mono hbel.size))
        have HW0 : Hid (∀ g, u5.ownBlock = some g → g < wr.heap.size ∨ w2.heap.size ≤ g) := fun g hg => by
          obtain ⟨_, h1, _⟩ := hom
          exact .inl (World.ownsRow.lt h1 g hg).2
        obtain ⟨U, hU1, hU2, hU3⟩ := hom2
        have HL1 := Lib.hid (ea_row t k)
        have hlen : (ea t k).length ≤ 512 := Nat.le_trans (ea_len t k) (Nat.pow_le_pow_right (by omega) (show t ≤ 9 by omega))
        have hlen2 : (ea t (k + 1)).length ≤ 512 := Nat.le_trans (ea_len t (k + 1)) (Nat.pow_le_pow_right (by omega) (show t ≤ 9 by omega))
        have HU3 := Lib.hid hU3
        have HSZ := Lib.hid hb2.size
        have HSB := Lib.hid hbel.size
        have HEA := Lib.hid (ea_succ t k)
        obtain ⟨a2, cap2, hv2, hcl, hcm, hop⟩ : ∃ a cap, v2 = .slice a (ea t k).length cap ∧ (ea t k).length ≤ cap ∧ cap ≤ maxLen ∧ (0 < (ea t k).length → ∃ g2, a = some ⟨g2, 0, none⟩ ∧ wr.heap.size ≤ g2 ∧ g2 < w2.heap.size ∧ ∀ j, j < (ea t k).length → w2.cell? ⟨g2, j, none⟩ = some (U j)) := by
          by_cases h0 : 0 < (ea t k).length
          · obtain ⟨g, cap, rfl, h4, h5, h6, h7, h8⟩ := own_open hU1 h0
            exact ⟨_, cap, rfl, h4, h5, fun _ => ⟨g, rfl, h6, h7, fun j hj => h8 j _ (by simp [hj])⟩⟩
          · have hz : (ea t k).length = 0 := by omega
            rw [hU2 hz, hz]
            exact ⟨none, 0, rfl, Nat.le_refl _, Nat.zero_le _, fun h => absurd h (Nat.lt_irrefl 0)⟩
        subst hv2
        have HOP := Lib.hid hop
        clear hop hU1 hU2 hU3 hom hbel hb2
        generalize ea t k = rows at *
        obtain ⟨ro, hro⟩ : ∃ ro, ea t (k + 1) = ro := ⟨_, rfl⟩
        rw [hro] at HOM HEA hlen2
        clear hro
        obtain ⟨B1, hB1⟩ : ∃ B, wr.heap.size = B := ⟨_, rfl⟩
        rw [hB1] at HSZ HSB HOP HU3 HW0
        clear hB1
        generalize hrl : rows.length = L at *
        have HRL := Lib.hid hrl
        clear hrl
        go_wp2_with fail
        go_loopw [25, 5, 8] (fun jv ov _ wq => ∃ j : Nat, j ≤ L ∧ jv = .int .i64 j ∧ OM wq w.heap.size ov (ro ++ (rows.take j).map (· ++ [(t : Int)])) ∧ Below w.heap.size w wq ∧ Hid (w2.heap.size ≤ wq.heap.size) ∧ Hid (∀ g, B1 ≤ g → g < w2.heap.size → wq.heap[g]? = w2.heap[g]?) ∧ Hid (∀ g, ov.ownBlock = some g → g < B1 ∨ w2.heap.size ≤ g)) (fun jv _ _ _ => L - (intOf jv).toNat)
        case atStart => exact ⟨0, Nat.zero_le _, rfl, by simpa using HOM.out, HB2.out, Nat.le_refl _, fun g _ _ => rfl, HW0.out⟩
        case round =>
          clear HOM HB2 HW0
          obtain ⟨j, hj, rfl, hom, hbel, HS2, HKP, HW⟩ := hrel
          by_cases hjl : j < L
          · obtain ⟨g2, rfl, hg1, hg2, hcU⟩ := HOP.out (by omega)
            have cU := (World.cell?_of_block (HKP.out g2 hg1 hg2)).trans (hcU j hjl)
            have hR := HU3.out j hjl
            obtain ⟨a', c', hUj, hr1, hr2, hr3, hr4⟩ := hR
            have hrk : (rows.getD j []).length = k := HL1.out _ (by
              have hjj : j < rows.length := by rw [HRL.out]; exact hjl
              rw [List.getD_eq_getElem?_getD, List.getElem?_eq_getElem hjj]; exact List.getElem_mem _)
            have HTK : Hid ((rows.take (j + 1)).map (· ++ [(t : Int)]) = (rows.take j).map (· ++ [(t : Int)]) ++ [rows.getD j [] ++ [(t : Int)]]) := by
              show _ = _
              have hjj : j < rows.length := by rw [HRL.out]; exact hjl
              rw [List.take_add_one, List.map_append, List.getElem?_eq_getElem hjj, List.getD_eq_getElem?_getD, List.getElem?_eq_getElem hjj]; rfl
            rw [hUj] at cU
            rw [hrk] at cU hr1 hr4
            have HR1 : Hid (∀ ad, a' = some ad → ∀ i u, ((rows.getD j []).map (Value.int .i64))[i]? = some u → wr.cell? (ad.add i) = some u ∧ ad.block < w2.heap.size) := fun ad had i u hi => by
              rw [List.getElem?_map] at hi
              have hik : i < k := by
                rcases Nat.lt_or_ge i k with h | h
                · exact h
                · rw [List.getElem?_eq_none (by rw [hrk]; exact h)] at hi; cases hi
              obtain ⟨h', off, hh, hb1, hb2, _, hcc⟩ := hr4 (by omega)
              rw [hh] at had
              cases had
              rw [List.getElem?_eq_getElem (by rw [hrk]; exact hik)] at hi
              have := hcc i hik
              rw [List.getD_eq_getElem?_getD, List.getElem?_eq_getElem (by rw [hrk]; exact hik)] at this
              simp at hi
              subst hi
              rw [WideShapes.add_plain]
              exact ⟨(World.cell?_of_block (HKP.out h' hb1 hb2)).trans this, hb2⟩
            have HR0 : Hid (0 < k → ∃ h off, a' = some ⟨h, off, none⟩) := fun h => by
              obtain ⟨h', off, hh, _⟩ := hr4 h
              exact ⟨h', off, hh⟩
            generalize rows.getD j [] = r at *
            clear hcU hUj hr4
            have hbw := hbel.size
            have HO0 := Lib.hid (World.ownsRow_lit (base := wr.heap.size) (e := 3) (size := 1) wr #[] 0 (Nat.le_refl _) (by decide) rfl)
            have HN1 : Hid ((r.map (Value.int .i64)).length = k) := by show _ = _; rw [List.length_map, hrk]
            have HN2 : Hid (a' = none → k = 0 ∧ c' = 0) := fun h => by
              refine ⟨?_, hr3 h⟩
              rcases Nat.eq_zero_or_pos k with h0 | h0
              · exact h0
              · obtain ⟨h', off, hh⟩ := HR0.out h0
                rw [h] at hh
                cases hh
            have HN3 : Hid (∀ ad, a' = some ad → ∀ i u, (r.map (Value.int .i64))[i]? = some u → (wr.alloc (.cells #[] 3)).cell? (ad.add i) = some u) := fun ad had i u hi => by
              obtain ⟨h1, h2⟩ := HR1.out ad had i u hi
              have h3 : (ad.add i).block < wr.heap.size := by
                have := HS2.out
                have : (ad.add i).block = ad.block := by unfold Addr.add; split <;> rfl
                omega
              exact (World.cell?_of_block (Below.heap_alloc _ _ _ h3)).trans h1
            have HN4 : Hid (∀ u ∈ r.map (Value.int .i64), u.oneCell' = true) := fun u hu => by
              rw [List.mem_map] at hu
              obtain ⟨x, _, rfl⟩ := hu
              rfl
            have HOM := Lib.hid hom
            have HBL := Lib.hid hbel
            clear hom hbel hr3
            go_wp2_with (at_builtin; go_must (refine push_list rfl _ _ 26 rfl wr.heap.size 3 i3 (.int .i64 0) 8 Try.underlying26 hi3 hz0 hz1 hz2 (by decide) rfl _ 0 [] rfl HO0.out a' k c' (r.map (Value.int .i64)) rfl HN1.out HN2.out HN3.out HN4.out (by omega) (by simp) ?_))
            intro v5 w5 hown5 hgr5
            have HB5 := Lib.hid (((Below.refl wr.heap.size wr).alloc (Nat.le_refl _) _).grown hgr5 (by simp) (fun k hk => by cases hk; exact Nat.le_refl _))
            have HO5 := Lib.hid hown5
            have hs5 := HB5.out.size
            clear hown5 hgr5
            go_wp2_with (at_builtin; go_must (refine push rfl _ _ 26 rfl wr.heap.size 3 i3 (.int .i64 0) 8 Try.underlying26 hi3 hz0 hz1 hz2 rfl _ k (r.map (Value.int .i64)) rfl HO5.out (.int .i64 t) _ rfl rfl rfl (by decide) (by omega) hs5 ?_))
            intro v6 w6 hown6 hgr6
            have HB6 := Lib.hid (grown_below hgr6 HO5.out HB5.out (Nat.le_refl _) hs5)
            have hs6 := HB6.out.size
            have HO6 := Lib.hid (RowAt.own (r := r ++ [(t : Int)]) (by simpa using hown6) |>.lower hbw)
            have HOM6 := Lib.hid (HOM.out.below HB6.out (Nat.le_refl _))
            clear hown6 hgr6
            obtain ⟨a6, l6, c6, hv6⟩ : ∃ a6 l6 c6, v6 = .slice a6 l6 c6 := by
              obtain ⟨a6, c6, h, -⟩ := HO6.out
              exact ⟨_, _, _, h⟩
            subst hv6
            have HLL : Hid ((ro ++ (rows.take j).map (· ++ [(t : Int)])).length + 1 ≤ 1000000000000) := by
              show _ ≤ _
              rw [List.length_append, List.length_map, List.length_take]; omega
            go_wp2_with (at_builtin; go_must (refine push_row2 rfl _ _ rfl w.heap.size _ _ rfl HOM6.out _ (r ++ [(t : Int)]) HO6.out _ rfl rfl HLL.out (by omega) ?_))
            intro v7 w7 hom7 hb7 hold7 hwh7
            have HS7 : Hid (w2.heap.size ≤ w7.heap.size) := by
              have := HS2.out
              have := hb7.size
              show _ ≤ _; omega
            have HK7 : Hid (∀ g, B1 ≤ g → g < w2.heap.size → w7.heap[g]? = w2.heap[g]?) := fun g h1 h2 => by
              have h3 := HS2.out
              rw [hold7 g (by omega) (fun e => by have := HW.out g e.symm; omega), HB6.out.block g (by omega)]
              exact HKP.out g h1 h2
            have HW7 : Hid (∀ g, v7.ownBlock = some g → g < B1 ∨ w2.heap.size ≤ g) := fun g hg => by
              rcases hwh7 with e | ⟨g', e, h⟩
              · rw [e] at hg; exact HW.out g hg
              · rw [e] at hg; cases hg
                have := HS2.out
                exact .inr (by omega)
            have HO7 : Hid (OM w7 w.heap.size v7 (ro ++ (rows.take (j + 1)).map (· ++ [(t : Int)]))) := by
              show OM _ _ _ _
              rw [HTK.out, List.map_take]; exact hom7
            have HB7 := Lib.hid (HBL.out.trans ((HB6.out.mono hbw).trans hb7))
            clear hom7 hb7 hold7 hwh7
            go_wp2_with fail
            exact ⟨⟨j + 1, by omega, by go_num, HO7.out, HB7.out, HS7, HK7, HW7⟩, by simp [intOf]; omega⟩
          · obtain rfl : j = L := by omega
            have HE : Hid (ro ++ (rows.take j).map (· ++ [(t : Int)]) = ea (t + 1) (k + 1)) := by
              show _ = _
              rw [HEA.out, List.take_of_length_le (by rw [HRL.out]; exact Nat.le_refl _)]
            rw [HE.out] at hom
            have HO := Lib.hid hom
            clear hom
            go_wp2_with fail
            exact ⟨⟨t + 1, by omega, Or.inl (by omega), by go_num, hbel, HO.out⟩, by simp [intOf]; omega⟩
      · have htn' : t = n ∨ n ≤ k := by omega
        have HE : Hid (ea t (k + 1) = ea n (k + 1)) := by
          show _ = _
          rcases htn with h | h
          · rw [show t = n by omega]
          · by_cases h2 : t = n
            · rw [h2]
            · rw [ea_none _ _ (by omega), ea_none _ _ (by omega)]
        rw [HE.out] at hom
        have HO := Lib.hid hom
        clear hom
        go_wp2_with fail
        go_ret
        exact ⟨hbel, _, rfl, HO.out⟩
end Go.Proofs.Ytkebahdapkjacaa
