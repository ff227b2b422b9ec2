/- dice.Most: what it answers. No condition. -/
import Derived.Test.YthjdhnjclcijhaaSum
set_option linter.unusedSimpArgs false
set_option linter.unusedVariables false
namespace Go.Proofs.Ythjdhnjclcijhaa
open Go.RowKit
def MostPost (a b : List Int) (e : Ending) (w w' : World) : Prop :=
  Below w.heap.size w w' ∧ ((RightL a ∧ RightL b ∧ RightL (mostL a b) ∧ ∃ v, Rd w' v (mostL a b) ∧ e = .returned (.tuple #[v, .int .i64 0])) ∨
    (RightL a ∧ RightL b ∧ ¬ RightL (mostL a b) ∧ e = .returned (.tuple #[.slice none 0 0, .int .i64 4])) ∨
    (¬ (RightL a ∧ RightL b) ∧ e = .returned (.tuple #[.slice none 0 0, .int .i64 1])))
theorem most_bad (v v2 : Value) (xs ys : List Int) (w : World) (h : Rd w v xs) (h2 : Rd w v2 ys) (hr : ¬ (RightL xs ∧ RightL ys)) : Calls Try.prog 10 #[v, v2] w fun e w' => MostPost xs ys e w w' := by
  have HA := Lib.hid (right_any v xs w h)
  have HB := Lib.hid (right_any v2 ys w h2)
  have HX : Hid (MostPost xs ys (.returned (.tuple #[.slice none 0 0, .int .i64 1])) w w) := ⟨Below.refl _ _, .inr (.inr ⟨hr, rfl⟩)⟩
  by_cases ha : RightL xs
  · rw [decide_eq_true ha] at HA
    rw [decide_eq_false (fun hb => hr ⟨ha, hb⟩)] at HB
    clear h h2 hr ha
    go_enter Try.func10, Try.ntmps10
    go_wp2_with fail
    refine HA.out.mono ?_
    rintro e w1 ⟨rfl, rfl⟩
    go_wp2_with fail
    refine HB.out.mono ?_
    rintro e w1 ⟨rfl, rfl⟩
    go_wp2_with fail
    go_ret2
    exact HX.out
  · rw [decide_eq_false ha] at HA
    clear h h2 hr ha
    go_enter Try.func10, Try.ntmps10
    go_wp2_with fail
    refine HA.out.mono ?_
    rintro e w1 ⟨rfl, rfl⟩
    go_wp2_with fail
    go_ret2
    exact HX.out
theorem most_empty (v v2 : Value) (xs ys : List Int) (w : World) (h : Rd w v xs) (h2 : Rd w v2 ys) (ha : RightL xs) (hb : RightL ys) (h0 : xs.length = 0 ∨ ys.length = 0) : Calls Try.prog 10 #[v, v2] w fun e w' => MostPost xs ys e w w' := by
  have HA := Lib.hid (right_any v xs w h)
  have HB := Lib.hid (right_any v2 ys w h2)
  rw [decide_eq_true ha] at HA
  rw [decide_eq_true hb] at HB
  have hs : mostL xs ys = [] := by unfold mostL; rw [if_pos h0]
  have HX : Hid (MostPost xs ys (.returned (.tuple #[.slice none 0 0, .int .i64 0])) w w) := ⟨Below.refl _ _, .inl ⟨ha, hb, by rw [hs]; exact right_nil, _, by rw [hs]; exact Rd.nil w, rfl⟩⟩
  obtain ⟨a, cap, rfl, hlc, hcm, -⟩ := h.open
  obtain ⟨a2, cap2, rfl, hlc2, hcm2, -⟩ := h2.open
  have f0 : (((xs.length : Nat) : Int) == 0 || ((ys.length : Nat) : Int) == 0) = true := by
    rcases h0 with h | h <;> simp [h]
  clear h h2 ha hb hs
  go_enter Try.func10, Try.ntmps10
  go_wp2_with fail
  refine HA.out.mono ?_
  rintro e w1 ⟨rfl, rfl⟩
  go_wp2_with fail
  refine HB.out.mono ?_
  rintro e w1 ⟨rfl, rfl⟩
  go_wp2_with fail
  all_goals first
    | (go_ret2; exact HX.out)
    | (exfalso; rcases h0 with h | h <;> omega)
set_option maxHeartbeats 3200000 in
theorem most_ok (v v2 : Value) (xs ys : List Int) (w : World) (h : Rd w v xs) (h2 : Rd w v2 ys) (ha : RightL xs) (hb : RightL ys) (h0 : 0 < xs.length) (h02 : 0 < ys.length) : Calls Try.prog 10 #[v, v2] w fun e w' => MostPost xs ys e w w' := by
  obtain ⟨i0, hinfo, hz0, hz1, hz2⟩ := info_parts Try.info3t
  have HA := Lib.hid (right_any v xs w h)
  have HB := Lib.hid (right_any v2 ys w h2)
  rw [decide_eq_true ha] at HA
  rw [decide_eq_true hb] at HB
  have hs : Hid (mostL xs ys = tabI (max xs.length ys.length) (fun k => up xs (k + 1) * up ys (k + 1) - up xs k * up ys k)) := by show _ = _; unfold mostL; rw [if_neg (by omega)]
  obtain ⟨a, cap, rfl, hlc, hcm, hop⟩ := h.open
  obtain ⟨a2, cap2, rfl, hlc2, hcm2, hop2⟩ := h2.open
  have HO1 := Lib.hid hop
  have HO2 := Lib.hid hop2
  have hl := ha.1
  have hl2 := hb.1
  have RA := Lib.hid ha
  have RB := Lib.hid hb
  have HUA := Lib.hid (fun k => up_le ha k)
  have HUB := Lib.hid (fun k => up_le hb k)
  clear h h2 hop hop2 ha hb
  have e1 : ((xs.length : Int) == 0) = false := by rw [beq_eq_false_iff_ne]; omega
  have e2 : ((ys.length : Int) == 0) = false := by rw [beq_eq_false_iff_ne]; omega
  by_cases hlt0 : xs.length < ys.length
  · clear e1 e2
    have e1 : ((xs.length : Int) == 0) = false := by rw [beq_eq_false_iff_ne]; omega
    have e2 : ((ys.length : Int) == 0) = false := by rw [beq_eq_false_iff_ne]; omega
    have hn : max xs.length ys.length = ys.length := by omega
    rw [hn] at hs
    have hnb : ys.length ≤ 200 := by omega
    have hnx : xs.length ≤ ys.length := by omega
    have hny : ys.length ≤ ys.length := by omega
    have b2 : i0.bytes * ys.length ≤ 281474976710656 := by rw [hz2]; omega
    have b3 : ys.length ≤ maxLen := by unfold maxLen; omega
    have HNX := Lib.hid hnx; have HNY := Lib.hid hny
    clear hn hnx hny
    go_enter Try.func10, Try.ntmps10
    go_wp2_with fail
    refine HA.out.mono ?_
    rintro e w1 ⟨rfl, rfl⟩
    go_wp2_with fail
    refine HB.out.mono ?_
    rintro e w1 ⟨rfl, rfl⟩
    go_wp2_with (refine wpList_make_full _ rfl _ _ 22 rfl w.heap.size 3 i0 (.int .i64 0) 1 Try.underlying22 hinfo hz0 hz1 .i64 .i64 _ _ ys.length rfl rfl rfl rfl b2 b3 (Nat.le_refl _) ?_)
    intro w2 hown hgr
    have HB2 := Lib.hid ((Below.refl w.heap.size w).grown hgr (Nat.le_refl _) (fun k hk => by cases hk))
    have HO := Lib.hid (OI.made hown)
    clear hown hgr b2 b3 HA HB hlt0
    generalize hg : w.heap.size = g at *
    have HG := Lib.hid hg
    clear hg
    go_wp2_with fail
    go_loopw [7, 8, 9, 35] (fun uav ubv wv kv wr => ∃ k : Nat, k ≤ ys.length ∧ kv = .int .i64 k ∧ uav = .int .i64 (up xs k : Nat) ∧ ubv = .int .i64 (up ys k : Nat) ∧ wv = .int .i64 (up xs k * up ys k : Nat) ∧ Below g w wr ∧
      OI wr g g ys.length (fun i => if i < k then up xs (i + 1) * up ys (i + 1) - up xs i * up ys i else 0)) (fun _ _ _ kv _ => ys.length - (intOf kv).toNat)
    case atStart => exact ⟨0, Nat.zero_le _, rfl, rfl, rfl, rfl, HB2.out, HO.out.congr (fun k _ => by rw [if_neg (Nat.not_lt_zero _)])⟩
    case round =>
      obtain ⟨k, hk, rfl, rfl, rfl, rfl, hbel, ho⟩ := hrel
      by_cases hlt : k < ys.length
      · have c0 := ho.get k hlt
        have fr := ho.frozen k
        have ua := HUA.out k
        have ub := HUB.out k
        have ua1 := HUA.out (k + 1)
        have ub1 := HUB.out (k + 1)
        have EA : Hid (up xs (k + 1) = up xs k + nd xs k) := rfl
        have EB : Hid (up ys (k + 1) = up ys k + nd ys k) := rfl
        have ma := up_mono xs k
        have mb := up_mono ys k
        have hmono : up xs k * up ys k ≤ up xs (k + 1) * up ys (k + 1) := Nat.mul_le_mul ma mb
        have hbd : up xs (k + 1) * up ys (k + 1) ≤ (200 * 1048576) * (200 * 1048576) := Nat.mul_le_mul ua1 ub1
        have hm : (up xs (k + 1) : Int) * (up ys (k + 1) : Int) = ((up xs (k + 1) * up ys (k + 1) : Nat) : Int) := by simp
        have hsub : ((up xs (k + 1) * up ys (k + 1) : Nat) : Int) - ((up xs k * up ys k : Nat) : Int) = ((up xs (k + 1) * up ys (k + 1) - up xs k * up ys k : Nat) : Int) := by omega
        have HS := Lib.hid (OI.congr (ho.set k (up xs (k + 1) * up ys (k + 1) - up xs k * up ys k)) (f' := fun i => if i < k + 1 then up xs (i + 1) * up ys (i + 1) - up xs i * up ys i else 0) (fun i _ => by
          by_cases e : i = k
          · subst e; rw [if_pos rfl, if_pos (Nat.lt_succ_self _)]
          · rw [if_neg e]
            by_cases e2 : i < k
            · rw [if_pos e2, if_pos (by omega)]
            · rw [if_neg e2, if_neg (by omega)]))
        have HBS := Lib.hid (hbel.setCell (Nat.le_refl _) (p := ⟨g, k, none⟩) (.int .i64 ((up xs (k + 1) * up ys (k + 1) - up xs k * up ys k : Nat) : Int)))
        have hca : k < xs.length → ∃ b off, a = some ⟨b, off, none⟩ ∧ wr.cell? ⟨b, off + k, none⟩ = some (.int .i64 (nd xs k : Nat)) := fun h => by
          obtain ⟨b, off, e, hbl, hc⟩ := HO1.out k h
          have := (World.cell?_of_block (hbel.block b hbl)).trans (hc k h)
          rw [(RA.out.at h).1] at this
          exact ⟨b, off, e, this⟩
        have hcb : k < ys.length → ∃ b off, a2 = some ⟨b, off, none⟩ ∧ wr.cell? ⟨b, off + k, none⟩ = some (.int .i64 (nd ys k : Nat)) := fun h => by
          obtain ⟨b, off, e, hbl, hc⟩ := HO2.out k h
          have := (World.cell?_of_block (hbel.block b hbl)).trans (hc k h)
          rw [(RB.out.at h).1] at this
          exact ⟨b, off, e, this⟩
        have hza : ¬ k < xs.length → nd xs k = 0 := fun h => nd_out (by omega)
        have hzb : ¬ k < ys.length → nd ys k = 0 := fun h => nd_out (by omega)
        have sA : (up xs k : Int) + (nd xs k : Int) = (up xs (k + 1) : Int) := by have := EA.out; omega
        have sB : (up ys k : Int) + (nd ys k : Int) = (up ys (k + 1) : Int) := by have := EB.out; omega
        have zA : nd xs k = 0 → up xs k = up xs (k + 1) := fun h => by have := EA.out; omega
        have zB : nd ys k = 0 → up ys k = up ys (k + 1) := fun h => by have := EB.out; omega
        clear ho hbel EA EB hmono ma mb
        generalize up xs (k + 1) * up ys (k + 1) - up xs k * up ys k = D at *
        generalize hP : up xs k * up ys k = P at *
        generalize hQ : up xs (k + 1) * up ys (k + 1) = Q at *
        have HQ := Lib.hid hQ
        clear hP hQ
        generalize nd xs k = x at *
        generalize nd ys k = y at *
        obtain ⟨b', off', rfl, c'⟩ := hcb hlt
        clear hcb hzb zB
        by_cases hx : k < xs.length
        · obtain ⟨b, off, rfl, c⟩ := hca hx
          clear hca hza zA
          generalize hU : up xs (k + 1) = U at *
          generalize hV : up ys (k + 1) = V at *
          have HU := Lib.hid hU
          have HV := Lib.hid hV
          clear hU hV
          go_wp2_with fail
          go_roundw
          case rel => exact ⟨k + 1, by omega, by go_num, by rw [HU.out], by rw [HV.out], by rw [HU.out, HV.out, HQ.out], HBS.out, HS.out⟩
          case measure => simp [intOf]; omega
        · have hx0 := zA (hza hx)
          clear hca hza zA
          rw [hx0] at *
          generalize hU : up xs (k + 1) = U at *
          generalize hV : up ys (k + 1) = V at *
          have HU := Lib.hid hU
          have HV := Lib.hid hV
          clear hU hV
          go_wp2_with fail
          go_roundw
          case rel => exact ⟨k + 1, by omega, by go_num, by rw [HU.out], by rw [HV.out], by rw [HU.out, HV.out, HQ.out], HBS.out, HS.out⟩
          case measure => simp [intOf]; omega
      · obtain rfl : k = ys.length := by omega
        have ht : tabI ys.length (fun i => if i < ys.length then up xs (i + 1) * up ys (i + 1) - up xs i * up ys i else 0) = mostL xs ys := by
          rw [hs.out]
          exact tabI_congr fun i hi => by rw [if_pos hi]
        have hrd := ho.rd
        rw [ht] at hrd
        have HRR := Lib.hid (right_any _ _ _ hrd)
        have HRD := Lib.hid hrd
        have HBO := Lib.hid hbel
        have ua := HUA.out ys.length
        have ub := HUB.out ys.length
        clear hrd ho hbel ht
        by_cases hr : RightL (mostL xs ys)
        · rw [decide_eq_true hr] at HRR
          have HX : Hid (MostPost xs ys (.returned (.tuple #[.slice (some ⟨g, 0, none⟩) ys.length ys.length, .int .i64 0])) w wr) := ⟨by rw [HG.out]; exact HBO.out, .inl ⟨RA.out, RB.out, hr, _, HRD.out, rfl⟩⟩
          clear hr
          go_wp2_with fail
          refine HRR.out.mono ?_
          rintro e w3 ⟨rfl, rfl⟩
          go_wp2_with fail
          go_ret2
          exact HX.out
        · rw [decide_eq_false hr] at HRR
          have HX : Hid (MostPost xs ys (.returned (.tuple #[.slice none 0 0, .int .i64 4])) w wr) := ⟨by rw [HG.out]; exact HBO.out, .inr (.inl ⟨RA.out, RB.out, hr, rfl⟩)⟩
          clear hr
          go_wp2_with fail
          refine HRR.out.mono ?_
          rintro e w3 ⟨rfl, rfl⟩
          go_wp2_with fail
          go_ret2
          exact HX.out
  · clear e1 e2
    have e1 : ((xs.length : Int) == 0) = false := by rw [beq_eq_false_iff_ne]; omega
    have e2 : ((ys.length : Int) == 0) = false := by rw [beq_eq_false_iff_ne]; omega
    have hn : max xs.length ys.length = xs.length := by omega
    rw [hn] at hs
    have hnb : xs.length ≤ 200 := by omega
    have hnx : xs.length ≤ xs.length := by omega
    have hny : ys.length ≤ xs.length := by omega
    have b2 : i0.bytes * xs.length ≤ 281474976710656 := by rw [hz2]; omega
    have b3 : xs.length ≤ maxLen := by unfold maxLen; omega
    have HNX := Lib.hid hnx; have HNY := Lib.hid hny
    clear hn hnx hny
    go_enter Try.func10, Try.ntmps10
    go_wp2_with fail
    refine HA.out.mono ?_
    rintro e w1 ⟨rfl, rfl⟩
    go_wp2_with fail
    refine HB.out.mono ?_
    rintro e w1 ⟨rfl, rfl⟩
    go_wp2_with (refine wpList_make_full _ rfl _ _ 22 rfl w.heap.size 3 i0 (.int .i64 0) 1 Try.underlying22 hinfo hz0 hz1 .i64 .i64 _ _ xs.length rfl rfl rfl rfl b2 b3 (Nat.le_refl _) ?_)
    intro w2 hown hgr
    have HB2 := Lib.hid ((Below.refl w.heap.size w).grown hgr (Nat.le_refl _) (fun k hk => by cases hk))
    have HO := Lib.hid (OI.made hown)
    clear hown hgr b2 b3 HA HB hlt0
    generalize hg : w.heap.size = g at *
    have HG := Lib.hid hg
    clear hg
    go_wp2_with fail
    go_loopw [7, 8, 9, 35] (fun uav ubv wv kv wr => ∃ k : Nat, k ≤ xs.length ∧ kv = .int .i64 k ∧ uav = .int .i64 (up xs k : Nat) ∧ ubv = .int .i64 (up ys k : Nat) ∧ wv = .int .i64 (up xs k * up ys k : Nat) ∧ Below g w wr ∧
      OI wr g g xs.length (fun i => if i < k then up xs (i + 1) * up ys (i + 1) - up xs i * up ys i else 0)) (fun _ _ _ kv _ => xs.length - (intOf kv).toNat)
    case atStart => exact ⟨0, Nat.zero_le _, rfl, rfl, rfl, rfl, HB2.out, HO.out.congr (fun k _ => by rw [if_neg (Nat.not_lt_zero _)])⟩
    case round =>
      obtain ⟨k, hk, rfl, rfl, rfl, rfl, hbel, ho⟩ := hrel
      by_cases hlt : k < xs.length
      · have c0 := ho.get k hlt
        have fr := ho.frozen k
        have ua := HUA.out k
        have ub := HUB.out k
        have ua1 := HUA.out (k + 1)
        have ub1 := HUB.out (k + 1)
        have EA : Hid (up xs (k + 1) = up xs k + nd xs k) := rfl
        have EB : Hid (up ys (k + 1) = up ys k + nd ys k) := rfl
        have ma := up_mono xs k
        have mb := up_mono ys k
        have hmono : up xs k * up ys k ≤ up xs (k + 1) * up ys (k + 1) := Nat.mul_le_mul ma mb
        have hbd : up xs (k + 1) * up ys (k + 1) ≤ (200 * 1048576) * (200 * 1048576) := Nat.mul_le_mul ua1 ub1
        have hm : (up xs (k + 1) : Int) * (up ys (k + 1) : Int) = ((up xs (k + 1) * up ys (k + 1) : Nat) : Int) := by simp
        have hsub : ((up xs (k + 1) * up ys (k + 1) : Nat) : Int) - ((up xs k * up ys k : Nat) : Int) = ((up xs (k + 1) * up ys (k + 1) - up xs k * up ys k : Nat) : Int) := by omega
        have HS := Lib.hid (OI.congr (ho.set k (up xs (k + 1) * up ys (k + 1) - up xs k * up ys k)) (f' := fun i => if i < k + 1 then up xs (i + 1) * up ys (i + 1) - up xs i * up ys i else 0) (fun i _ => by
          by_cases e : i = k
          · subst e; rw [if_pos rfl, if_pos (Nat.lt_succ_self _)]
          · rw [if_neg e]
            by_cases e2 : i < k
            · rw [if_pos e2, if_pos (by omega)]
            · rw [if_neg e2, if_neg (by omega)]))
        have HBS := Lib.hid (hbel.setCell (Nat.le_refl _) (p := ⟨g, k, none⟩) (.int .i64 ((up xs (k + 1) * up ys (k + 1) - up xs k * up ys k : Nat) : Int)))
        have hca : k < xs.length → ∃ b off, a = some ⟨b, off, none⟩ ∧ wr.cell? ⟨b, off + k, none⟩ = some (.int .i64 (nd xs k : Nat)) := fun h => by
          obtain ⟨b, off, e, hbl, hc⟩ := HO1.out k h
          have := (World.cell?_of_block (hbel.block b hbl)).trans (hc k h)
          rw [(RA.out.at h).1] at this
          exact ⟨b, off, e, this⟩
        have hcb : k < ys.length → ∃ b off, a2 = some ⟨b, off, none⟩ ∧ wr.cell? ⟨b, off + k, none⟩ = some (.int .i64 (nd ys k : Nat)) := fun h => by
          obtain ⟨b, off, e, hbl, hc⟩ := HO2.out k h
          have := (World.cell?_of_block (hbel.block b hbl)).trans (hc k h)
          rw [(RB.out.at h).1] at this
          exact ⟨b, off, e, this⟩
        have hza : ¬ k < xs.length → nd xs k = 0 := fun h => nd_out (by omega)
        have hzb : ¬ k < ys.length → nd ys k = 0 := fun h => nd_out (by omega)
        have sA : (up xs k : Int) + (nd xs k : Int) = (up xs (k + 1) : Int) := by have := EA.out; omega
        have sB : (up ys k : Int) + (nd ys k : Int) = (up ys (k + 1) : Int) := by have := EB.out; omega
        have zA : nd xs k = 0 → up xs k = up xs (k + 1) := fun h => by have := EA.out; omega
        have zB : nd ys k = 0 → up ys k = up ys (k + 1) := fun h => by have := EB.out; omega
        clear ho hbel EA EB hmono ma mb
        generalize up xs (k + 1) * up ys (k + 1) - up xs k * up ys k = D at *
        generalize hP : up xs k * up ys k = P at *
        generalize hQ : up xs (k + 1) * up ys (k + 1) = Q at *
        have HQ := Lib.hid hQ
        clear hP hQ
        generalize nd xs k = x at *
        generalize nd ys k = y at *
        obtain ⟨b, off, rfl, c⟩ := hca hlt
        clear hca hza zA
        by_cases hy : k < ys.length
        · obtain ⟨b', off', rfl, c'⟩ := hcb hy
          clear hcb hzb zB
          generalize hU : up xs (k + 1) = U at *
          generalize hV : up ys (k + 1) = V at *
          have HU := Lib.hid hU
          have HV := Lib.hid hV
          clear hU hV
          go_wp2_with fail
          go_roundw
          case rel => exact ⟨k + 1, by omega, by go_num, by rw [HU.out], by rw [HV.out], by rw [HU.out, HV.out, HQ.out], HBS.out, HS.out⟩
          case measure => simp [intOf]; omega
        · have hy0 := zB (hzb hy)
          clear hcb hzb zB
          rw [hy0] at *
          generalize hU : up xs (k + 1) = U at *
          generalize hV : up ys (k + 1) = V at *
          have HU := Lib.hid hU
          have HV := Lib.hid hV
          clear hU hV
          go_wp2_with fail
          go_roundw
          case rel => exact ⟨k + 1, by omega, by go_num, by rw [HU.out], by rw [HV.out], by rw [HU.out, HV.out, HQ.out], HBS.out, HS.out⟩
          case measure => simp [intOf]; omega
      · obtain rfl : k = xs.length := by omega
        have ht : tabI xs.length (fun i => if i < xs.length then up xs (i + 1) * up ys (i + 1) - up xs i * up ys i else 0) = mostL xs ys := by
          rw [hs.out]
          exact tabI_congr fun i hi => by rw [if_pos hi]
        have hrd := ho.rd
        rw [ht] at hrd
        have HRR := Lib.hid (right_any _ _ _ hrd)
        have HRD := Lib.hid hrd
        have HBO := Lib.hid hbel
        have ua := HUA.out xs.length
        have ub := HUB.out xs.length
        clear hrd ho hbel ht
        by_cases hr : RightL (mostL xs ys)
        · rw [decide_eq_true hr] at HRR
          have HX : Hid (MostPost xs ys (.returned (.tuple #[.slice (some ⟨g, 0, none⟩) xs.length xs.length, .int .i64 0])) w wr) := ⟨by rw [HG.out]; exact HBO.out, .inl ⟨RA.out, RB.out, hr, _, HRD.out, rfl⟩⟩
          clear hr
          go_wp2_with fail
          refine HRR.out.mono ?_
          rintro e w3 ⟨rfl, rfl⟩
          go_wp2_with fail
          go_ret2
          exact HX.out
        · rw [decide_eq_false hr] at HRR
          have HX : Hid (MostPost xs ys (.returned (.tuple #[.slice none 0 0, .int .i64 4])) w wr) := ⟨by rw [HG.out]; exact HBO.out, .inr (.inl ⟨RA.out, RB.out, hr, rfl⟩)⟩
          clear hr
          go_wp2_with fail
          refine HRR.out.mono ?_
          rintro e w3 ⟨rfl, rfl⟩
          go_wp2_with fail
          go_ret2
          exact HX.out
theorem most_any (v v2 : Value) (xs ys : List Int) (w : World) (h : Rd w v xs) (h2 : Rd w v2 ys) : Calls Try.prog 10 #[v, v2] w fun e w' => MostPost xs ys e w w' := by
  by_cases hr : RightL xs ∧ RightL ys
  · by_cases h0 : xs.length = 0 ∨ ys.length = 0
    · exact most_empty v v2 xs ys w h h2 hr.1 hr.2 h0
    · exact most_ok v v2 xs ys w h h2 hr.1 hr.2 (by omega) (by omega)
  · exact most_bad v v2 xs ys w h h2 hr
end Go.Proofs.Ythjdhnjclcijhaa
