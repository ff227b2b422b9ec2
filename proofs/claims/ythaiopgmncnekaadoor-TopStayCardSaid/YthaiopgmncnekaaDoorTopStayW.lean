/- The walk of TopStay. Condition: the listed variables as they are laid. -/
import Derived.Test.YthaiopgmncnekaaDoorStayL
import Derived.Test.YthaiopgmncnekaaDoorStayF
import Derived.Test.YthaiopgmncnekaaDoorStayMap
import Derived.Test.YthaiopgmncnekaaDoorAl
set_option linter.unusedSimpArgs false
set_option linter.unusedVariables false
namespace Go.Proofs.YthaiopgmncnekaaDoor
open Go.RowKit Go.Maps
namespace Stay
open Cyc
theorem lone_rows (R : List (List Nat)) : loneL (rows R) = R.any fun l => l.length == 1 := by
  unfold loneL rows
  rw [List.any_map]
  congr 1
  funext l
  simp [ints]
theorem of_nat (n r : Nat) (hn : n ≤ 6) (hr : r < fct n) (v : Value) (w : World) (h : Rd w v (atL n r)) : Calls Tryd.prog 15 #[v] w fun e w' => Below w.heap.size w w' ∧ ∃ a c, e = .returned (.tuple #[.slice a (nc n r) c, .int .i64 0]) ∧ RdM w' (.slice a (nc n r) c) (rows (rounds n r)) := by
  obtain ⟨-, h2, h3, -⟩ := chk_r hn hr
  refine (of_ok v _ w h h2).mono ?_
  rintro e w' ⟨hb, u, rfl, ho⟩
  rw [h3] at ho
  have hrd : RdM w' u (rows (rounds n r)) := ho.rd
  obtain ⟨a, c, he, -⟩ := hrd.open
  rw [rows_len] at he
  subst he
  exact ⟨hb, a, c, rfl, hrd⟩
theorem many_step (n r x : Nat) (hx : nc n r = x) (k : Nat) : (if k = x then many n x r + 1 else many n k r) = many n k (r + 1) := by
  show _ = many n k r + if nc n r = k then 1 else 0
  rw [hx]
  by_cases e : k = x
  · subst e; rw [if_pos rfl, if_pos rfl]
  · rw [if_neg e, if_neg (fun h => e h.symm)]; rfl
end Stay
open Stay Cyc
set_option maxHeartbeats 3200000 in
set_option maxRecDepth 20000 in
theorem stay_walk (n : Nat) (hn : n ≤ 6) (w : World) (hT : TW w) :
    Calls Tryd.prog 4 #[.int .i64 n] w fun e w' => e = .returned (.bool true) ∧ Below w.heap.size w w' := by
  have HA := Lib.hid (alive_any w hT)
  have q1 : decide ((n : Int) < 0) = false := decide_eq_false (by omega)
  have q2 : decide ((6 : Int) < (n : Int)) = false := decide_eq_false (by omega)
  have q3 : decide (6 < n) = false := decide_eq_false (by omega)
  have hmm := @run_makeMap Tryd.prog
  clear hT
  have HAT := Lib.hid (fun r (hr : r < fct n) w => at_nat n r (by omega) (by have := fct_le hn; omega) w)
  have HOK := Lib.hid (fun r (hr : r < fct n) => chk_r hn hr)
  have HOF := Lib.hid (fun r (hr : r < fct n) v w h => of_nat n r hn hr v w h)
  have HFR := Lib.hid (chk_free hn)
  have HPA := Lib.hid (fun k (hk : k < n + 1) => chk_parts hn hk)
  have HSU := Lib.hid (chk_sum hn)
  have hA := fct_le hn
  have HF : Hid (∀ k, fct (k + 1) = fct k * (k + 1)) := fun k => rfl
  have HFL : Hid (∀ k, k ≤ 6 → fct k ≤ 720) := fun k h => fct_le h
  have HWR : Hid (∀ w, Calls Tryd.prog 18 #[.int .i64 n] w fun e w' => e = .returned (.tuple #[.int .i64 (Urns.wr2 n).1, .int .i64 0]) ∧ Below w.heap.size w w') := fun w => Urns.Wrongly_any n (by omega) w
  have HPT : Hid (∀ k, k < n + 1 → ∀ w, Calls Tryd.prog 19 #[.int .i64 n, .int .i64 k] w fun e w' => e = .returned (.tuple #[.int .i64 (Urns.parts n k), .int .i64 0]) ∧ Below w.heap.size w w') := fun k hk w => Urns.Parts_any n k (by omega) (by omega) w
  rw [← HFR.out] at HWR
  go_enter Tryd.func4, Tryd.ntmps4
  go_wp2_with fail
  refine HA.out.mono ?_
  rintro e w1 ⟨rfl, hb1⟩
  have HB1 := Lib.hid hb1
  have hs1 := hb1.size
  clear hb1
  go_wp2_with fail
  have hmb : MF (w1.alloc (.map #[] 0)) w1.heap.size 0 (fun _ => 0) := MF.made w1
  have HMB := Lib.hid hmb
  have HB2 : Hid (Below w.heap.size w (w1.alloc (.map #[] 0))) := HB1.out.alloc hs1 _
  have hml : w1.heap.size < (w1.alloc (.map #[] 0)).heap.size := hmb.lt
  obtain ⟨mb, hmbe⟩ : ∃ mb, w1.heap.size = mb := ⟨_, rfl⟩
  obtain ⟨w2, hw2⟩ : ∃ w2, w1.alloc (.map #[] 0) = w2 := ⟨_, rfl⟩
  rw [hmbe, hw2] at HMB hml
  rw [hw2] at HB2
  rw [hmbe, hw2]
  rw [hmbe] at hs1
  clear hmb hmbe hw2 HB1 hmm
  go_loop [6, 5] (fun kv av => ∃ k a : Nat, 1 ≤ k ∧ (k ≤ n ∨ k = 1) ∧ kv = .int .i64 ((k : Int) + 1) ∧ av = .int .i64 a ∧ a ≤ 720 ∧ Hid (a = fct k)) (fun kv _ => n + 1 - (intOf kv).toNat)
  case atStart => exact ⟨1, 1, by omega, by omega, rfl, rfl, by decide, rfl⟩
  case round =>
    obtain ⟨k, a, hk1, hk2, rfl, rfl, ha, HAK⟩ := hrel
    by_cases hlt : k < n
    · have q4 : decide ((k : Int) + 1 ≤ (n : Int)) = true := decide_eq_true (by omega)
      have hfk := HF.out k
      rw [← HAK.out] at hfk
      have hf2 := HFL.out (k + 1) (by omega)
      rw [hfk] at hf2
      have HFK := Lib.hid hfk
      obtain ⟨p, hp⟩ : ∃ p : Nat, a * (k + 1) = p := ⟨_, rfl⟩
      rw [hp] at hf2 HFK
      have hpp : (a : Int) * ((k : Int) + 1) = (p : Int) := by rw [← hp]; simp
      clear hfk hp hk2
      go_wp2_with fail
      go_round
      case rel => exact ⟨k + 1, p, by omega, by omega, by go_num, rfl, hf2, HFK.out.symm⟩
      case measure => simp [intOf]; omega
    · have q4 : decide ((k : Int) + 1 ≤ (n : Int)) = false := decide_eq_false (by omega)
      have q5 : ((k : Int) + 1 ≤ (n : Int)) = False := eq_false (by omega)
      have HAN : Hid (fct n = a) := by
        show _ = _
        rw [HAK.out]
        rcases Nat.lt_or_ge 0 n with h | h
        · rw [show k = n by omega]
        · rw [show k = 1 by omega, show n = 0 by omega]; rfl
      rw [HAN.out] at HAT HOK HOF HPA HSU hA HWR
      clear hk1 hk2 hlt HAK HAN HF HFL HFR
      go_wp2_with fail
      go_loopw [36, 3] (fun iv fv wr => ∃ r : Nat, r ≤ a ∧ iv = .int .i64 r ∧ fv = .int .i64 (free n r : Nat) ∧ Hid (Below w.heap.size w wr) ∧ Hid (mb < wr.heap.size) ∧ Hid (MF wr mb r (fun k => many n k r))) (fun iv _ _ => a - (intOf iv).toNat)
      case atStart => exact ⟨0, Nat.zero_le _, rfl, rfl, HB2.out, hml, HMB.out⟩
      case round =>
        clear HB2 HMB hml
        obtain ⟨r, hr, rfl, rfl, HBR, HML, HMR⟩ := hrel
        by_cases hlt : r < a
        · have hlt2 : (r : Int) < (a : Int) := by omega
          obtain ⟨o1, o2, o3, o4⟩ := HOK.out r hlt
          have HATR := Lib.hid (HAT.out r hlt wr)
          have HOFR := Lib.hid (HOF.out r hlt)
          have HLR := Lib.hid (lone_rows (rounds n r))
          have hlone : ((rounds n r).any fun l => l.length == 1) = loneB n r := rfl
          rw [hlone] at HLR
          have HFS : Hid (free n (r + 1) = free n r + if loneB n r then 0 else 1) := rfl
          have hfl := free_le n r
          have HMS := Lib.hid (many_step n r)
          have HML2 := Lib.hid (fun k => many_le n k r)
          obtain ⟨x, hx⟩ : ∃ x, nc n r = x := ⟨_, rfl⟩
          rw [hx] at o4 HOFR
          have HX := Lib.hid hx
          have HO1 := Lib.hid o1
          clear o1 o2 o3 hx hlone
          go_wp2_with fail
          refine HATR.out.mono ?_
          rintro e w3 ⟨hb3, hpost⟩
          obtain ⟨u, rfl, hu, hub⟩ := hpost.2 HO1.out
          have HU := Lib.hid hu
          have HB3 := Lib.hid hb3
          clear hb3 hpost hu hub HATR
          go_wp2_with fail
          refine (HOFR.out _ _ HU.out).mono ?_
          rintro e w4 ⟨hb4, la, lc, rfl, hrm⟩
          have hb34 := HB3.out.trans (hb4.mono HB3.out.size)
          have HC := Lib.hid (contains_any _ _ w4 hrm)
          rw [HLR.out] at HC
          have HB4 := Lib.hid (HBR.out.trans (hb34.mono HBR.out.size))
          have hM4 := HMR.out.kept hb34 HML.out
          have HML4 : Hid (mb < w4.heap.size) := hM4.lt
          obtain ⟨D, hD1, hD2, hD3⟩ := hM4
          have HD1 := Lib.hid hD1
          have HD2 := Lib.hid hD2
          have HD3 := Lib.hid hD3
          have HKEY := Lib.hid (key_nat x (by omega))
          have hmx := HML2.out x
          have hmx2 : many n x r ≤ 720 := by omega
          have HST : Hid (∀ k, (if k = x then many n x r + 1 else many n k r) = many n k (r + 1)) := HMS.out x HX.out
          clear hb34 hb4 hrm hD1 hD2 hD3 HB3 HU HOFR
          cases hlo : loneB n r
          all_goals
            rw [hlo] at HC HFS
            clear hlo
            go_wp2_with fail
            refine HC.out.mono ?_
            rintro e w5 ⟨rfl, rfl⟩
            go_wp2_with (at_lookup; go_must (refine wpList_lookup_own_int _ rfl _ _ 41 rfl 3 3 .i64 key3 Tryd.underlying41 Tryd.underlying3 (zero3 _) mb r D rfl HD1.out _ _ rfl HKEY.out ?_))
            intro cc hat hwf
            have hcc : cc = ((many n x r : Nat) : Int) := by
              have := HD3.out x
              rw [hat] at this
              simpa using this
            subst hcc
            have hwr : IntKind.i64.wrap (((many n x r : Nat) : Int) + 1) = ((many n x r + 1 : Nat) : Int) := by rw [IntKind.wrap_i64]; omega
            clear hat hwf
            go_wp2_with (at_mapUpdate; go_must (refine wpList_mapUpdate_own _ rfl _ _ _ 41 rfl 3 3 key3 Tryd.underlying41 _ mb r D rfl HD1.out (by unfold maxLen; omega) _ _ _ rfl rfl HKEY.out _ [] (plainElem_int Tryd.underlying3 (Go.WalkArith.wf_i64 (by omega))) ?_))
            intro w6 ho6 hg6
            have HM6 : Hid (MF w6 mb (r + 1) (fun k => many n k (r + 1))) := (MF.put (c := many n x r + 1) HD2.out HD3.out ho6).congr HST.out
            have HB6 := Lib.hid (HB4.out.grown hg6 HB4.out.size (fun k hk => by cases hk; exact hs1))
            have HML6 : Hid (mb < w6.heap.size) := by have := hg6.size; have := HML4.out; show _ < _; omega
            clear ho6 hg6
            go_wp2_with fail
            go_roundw
            case rel => exact ⟨r + 1, by omega, by go_num, by rw [HFS.out]; go_num, HB6.out, HML6.out, HM6.out⟩
            case measure => simp [intOf]; omega
        · obtain rfl : r = a := by omega
          clear HAT HOK HOF
          go_wp2_with fail
          refine (HWR.out _).mono ?_
          rintro e w3 ⟨rfl, hb3⟩
          have HB3 := Lib.hid (HBR.out.trans (hb3.mono HBR.out.size))
          have HM3 := Lib.hid (HMR.out.kept hb3 HML.out)
          clear hb3
          go_wp2_with fail
          have HS0 : Hid (∀ k, sumTo (fun k => many n k r) (k + 1) = sumTo (fun k => many n k r) k + many n k r) := fun k => rfl
          have HSL : Hid (∀ k, k ≤ n + 1 → sumTo (fun k => many n k r) k ≤ 720) := fun k hk => by
            have h1 := sumTo_le (fun k => many n k r) (n + 1) hk
            rw [HSU.out] at h1
            omega
          have hfl := free_le n r
          generalize free n r = F at *
          have w0 : IntKind.i64.wrap ((n : Int) + 1) = (n : Int) + 1 := by rw [IntKind.wrap_i64]; omega
          go_loopw [74, 14] (fun kv sv wq => ∃ k : Nat, k ≤ n + 1 ∧ kv = .int .i64 k ∧ sv = .int .i64 (sumTo (fun k => many n k r) k : Nat) ∧ Hid (Below w.heap.size w wq) ∧ Hid (mb < wq.heap.size) ∧ Hid (MF wq mb r (fun k => many n k r))) (fun kv _ _ => n + 1 - (intOf kv).toNat)
          case atStart => exact ⟨0, Nat.zero_le _, rfl, rfl, HB3.out, HM3.out.lt, HM3.out⟩
          case round =>
            clear HB3 HM3 HBR HMR HML
            obtain ⟨k, hk, rfl, rfl, HBK, HMLK, HMK⟩ := hrel
            by_cases hkl : k < n + 1
            · have hkl2 : (k : Int) < (n : Int) + 1 := by omega
              have HP := Lib.hid (HPT.out k hkl)
              obtain ⟨p1, p2⟩ := HPA.out k hkl
              have hS1 := HSL.out k hk
              have hS2 := HSL.out (k + 1) (by omega)
              have HSS := Lib.hid (HS0.out k)
              have hml := many_le n k r
              have HLK : Hid (∀ w', MF w' mb r (fun k => many n k r) → (Instr.lookup 41 (.map (some mb)) (.int .i64 (k : Int)) false).run Tryd.prog w' = .ok (.int .i64 (many n k r : Nat)) w') := fun w' h => h.look (by omega)
              rw [HSS.out] at hS2
              obtain ⟨m, hm⟩ : ∃ m, many n k r = m := ⟨_, rfl⟩
              obtain ⟨S, hS⟩ : ∃ S, sumTo (fun k => many n k r) k = S := ⟨_, rfl⟩
              rw [hm] at p2 hml HSS HLK hS2
              rw [hS] at hS1 HSS hS2 ⊢
              obtain ⟨p, hp⟩ : ∃ p, Urns.parts n k = p := ⟨_, rfl⟩
              rw [hp] at HP p1 p2
              clear hm hS hp
              go_wp2_with fail
              refine (HP.out _).mono ?_
              rintro e w4 ⟨rfl, hb4⟩
              have HB4 := Lib.hid (HBK.out.trans (hb4.mono HBK.out.size))
              have HM4 := Lib.hid (HMK.out.kept hb4 HMLK.out)
              have hlk := HLK.out w4 HM4.out
              have hlk2 := HLK.out w4.drew HM4.out
              clear hb4
              by_cases hp0 : 0 < p
              · have r1 : decide (0 < p) = true := decide_eq_true hp0
                have r2 : decide ((m : Int) < p) = false := decide_eq_false (by omega)
                go_wp2_with fail
                go_roundw
                case rel => exact ⟨k + 1, by omega, by go_num, by rw [HSS.out]; go_num, HB4.out, HM4.out.lt, HM4.out⟩
                case measure => simp [intOf]; omega
              · obtain rfl : p = 0 := by omega
                have r1 : decide (0 < (0 : Int)) = false := rfl
                go_wp2_with fail
                go_roundw
                case rel => exact ⟨k + 1, by omega, by go_num, by rw [HSS.out]; go_num, HB4.out, HM4.out.lt, HM4.out⟩
                case measure => simp [intOf]; omega
            · obtain rfl : k = n + 1 := by omega
              have HE : Hid (sumTo (fun k => many n k r) (n + 1) = r) := HSU.out
              rw [HE.out]
              go_wp2_with fail
              go_ret
              exact ⟨by simp, HBK.out⟩
set_option maxHeartbeats 800000 in
set_option maxRecDepth 20000 in
theorem topStay.walk (a : Int) (w : World) (hT : TW w) (_ : (Lit.int .i64 a).wf = true) :
    Calls Tryd.prog 4 #[.int .i64 a] w fun e w' => e = .returned (.bool true) ∧ Below w.heap.size w w' := by
  by_cases h1 : a < 0
  · have HA := Lib.hid (alive_any w hT)
    have q1 : decide (a < 0) = true := decide_eq_true h1
    clear hT
    go_enter Tryd.func4, Tryd.ntmps4
    go_wp2_with fail
    refine HA.out.mono ?_
    rintro e w1 ⟨rfl, hb1⟩
    have HB := Lib.hid hb1
    clear hb1
    go_wp2_with fail
    go_ret
    exact ⟨rfl, HB.out⟩
  · by_cases h2 : 6 < a
    · have HA := Lib.hid (alive_any w hT)
      have q1 : decide (a < 0) = false := decide_eq_false h1
      have q2 : decide (6 < a) = true := decide_eq_true h2
      clear hT
      go_enter Tryd.func4, Tryd.ntmps4
      go_wp2_with fail
      refine HA.out.mono ?_
      rintro e w1 ⟨rfl, hb1⟩
      have HB := Lib.hid hb1
      clear hb1
      go_wp2_with fail
      go_ret
      exact ⟨rfl, HB.out⟩
    · have := stay_walk a.toNat (by omega) w hT
      rwa [show ((a.toNat : Nat) : Int) = a by omega] at this
end Go.Proofs.YthaiopgmncnekaaDoor
