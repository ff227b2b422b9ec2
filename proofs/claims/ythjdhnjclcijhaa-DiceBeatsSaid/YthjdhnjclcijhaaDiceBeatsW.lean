/- The walk of DiceBeats. No condition. -/
import Derived.Test.YthjdhnjclcijhaaAl
import Derived.WalkSpells
set_option linter.unusedSimpArgs false
set_option linter.unusedVariables false
namespace Go.Proofs.Ythjdhnjclcijhaa.diceBeats
open Go.RowKit Go.Proofs.Ythjdhnjclcijhaa
theorem ways_le {zs : List Int} (h : RightL zs) : ways zs ≤ 200 * 1048576 := Nat.le_trans (tot_le (fun j _ => h.le j)) (Nat.mul_le_mul_right _ h.1)
theorem walk_bad (v v2 : Value) (xs ys : List Int) (by_ : Int) (w : World) (hx : Rd w v xs) (hy : Rd w v2 ys) (hr : ¬ (RightL xs ∧ RightL ys)) :
    Calls Try.prog 7 #[v, v2, .int .i64 by_] w fun e w' => e = .returned (.bool true) ∧ Below w.heap.size w w' := by
  have HX := Lib.hid hx
  have HY := Lib.hid hy
  have H1 := Lib.hid (fun w h h2 => beats_bad v v2 xs ys w h h2 hr)
  have H2 := Lib.hid (fun w h h2 => beats_bad v2 v ys xs w h h2 (fun h => hr ⟨h.2, h.1⟩))
  clear hx hy hr
  go_enter Try.func7, Try.ntmps7
  go_wp2_with fail
  refine (alive_any _).mono ?_
  rintro e w1 ⟨rfl, hb1⟩
  have HX1 := Lib.hid (HX.out.below hb1 (Nat.le_refl _))
  have HY1 := Lib.hid (HY.out.below hb1 (Nat.le_refl _))
  go_wp2_with fail
  refine (H1.out _ HX1.out HY1.out).mono ?_
  rintro e w2 ⟨rfl, rfl⟩
  go_wp2_with fail
  refine (H2.out _ HY1.out HX1.out).mono ?_
  rintro e w2 ⟨rfl, rfl⟩
  go_wp2_with fail
  go_ret
  exact ⟨by simp, hb1⟩
set_option maxHeartbeats 1000000 in
theorem walk_ok (v v2 : Value) (xs ys : List Int) (by_ : Int) (w : World) (hx : Rd w v xs) (hy : Rd w v2 ys) (ra : RightL xs) (rb : RightL ys) :
    Calls Try.prog 7 #[v, v2, .int .i64 by_] w fun e w' => e = .returned (.bool true) ∧ Below w.heap.size w w' := by
  obtain ⟨i0, hinfo, hz0, hz1, hz2⟩ := info_parts Try.info3t
  have HX := Lib.hid hx
  have HY := Lib.hid hy
  have hl := ra.1
  have H1 := Lib.hid (fun w h h2 => beats_ok v v2 xs ys w h h2 ra rb)
  have H2 := Lib.hid (fun w h h2 => beats_ok v2 v ys xs w h h2 rb ra)
  have M1 := Lib.hid (fun w h => mean_ok v xs w h ra)
  have M2 := Lib.hid (fun w h => mean_ok v2 ys w h rb)
  have HB3 := Lib.hid (fun v' zs w h h2 hr => beats_ok v' v2 zs ys w h h2 hr rb)
  have HBad := Lib.hid (fun v' zs w h h2 (hr : ¬ RightL zs) => beats_bad v' v2 zs ys w h h2 (fun h => hr h.1))
  have h3 := all_three xs ys
  have HPad := Lib.hid (fun k => more_pad xs ys k)
  have hw1 := ways_le ra
  have hw2 := ways_le rb
  have hp : ways xs * ways ys ≤ (200 * 1048576) * (200 * 1048576) := Nat.mul_le_mul hw1 hw2
  have hm : (ways xs : Int) * (ways ys : Int) = ((ways xs * ways ys : Nat) : Int) := by simp
  rw [same_comm ys xs] at H2
  have HM0 : Hid (xs.length = 0 → moreT xs ys = 0) := fun h => by unfold moreT; rw [h]; rfl
  obtain ⟨a, cap, rfl, hlc, hcm, -⟩ := hx.open
  obtain ⟨a2, cap2, rfl, hlc2, hcm2, -⟩ := hy.open
  clear hx hy
  have HMB : Hid (∀ zs : List Int, moreT zs ys = moreT zs ys) := fun _ => rfl
  generalize ways xs * ways ys = P at *
  generalize ways xs = mm at *
  generalize ways ys = nn at *
  generalize hX : moreT xs ys = X at *
  generalize hY : moreT ys xs = Y at *
  generalize hS : sameT xs ys = S at *
  clear hX hY hS
  have s1 : (X : Int) + (Y : Int) + (S : Int) = (P : Int) := by omega
  have HRA := Lib.hid ra
  clear ra rb h3
  have q1 : ((S : Int) != (S : Int)) = false := by simp
  have q2 : ((P : Int) != (P : Int)) = false := by simp
  have hXYb : X + Y ≤ P := by omega
  by_cases hby : 0 ≤ by_ ∧ by_ ≤ 20
  · have g1 : decide (by_ < 0) = false := decide_eq_false (by omega)
    have g2 : decide (20 < by_) = false := decide_eq_false (by omega)
    obtain ⟨k, rfl⟩ : ∃ k : Nat, by_ = k := ⟨by_.toNat, by omega⟩
    have hk : k ≤ 20 := by omega
    by_cases h0 : xs.length = 0
    · have hX0 := HM0.out h0
      subst hX0
      have f0 : ((xs.length : Int) == 0) = true := by simp [h0]
      clear h0
      go_enter Try.func7, Try.ntmps7
      go_wp2_with fail
      refine (alive_any _).mono ?_
      rintro e w1 ⟨rfl, hb1⟩
      have HX1 := Lib.hid (HX.out.below hb1 (Nat.le_refl _))
      have HY1 := Lib.hid (HY.out.below hb1 (Nat.le_refl _))
      go_wp2_with fail
      refine (H1.out _ HX1.out HY1.out).mono ?_
      rintro e w2 ⟨rfl, rfl⟩
      go_wp2_with fail
      refine (H2.out _ HY1.out HX1.out).mono ?_
      rintro e w2 ⟨rfl, rfl⟩
      go_wp2_with fail
      refine (M1.out _ HX1.out).mono ?_
      rintro e w2 ⟨rfl, rfl⟩
      go_wp2_with fail
      refine (M2.out _ HY1.out).mono ?_
      rintro e w2 ⟨rfl, rfl⟩
      go_wp2_with fail
      go_ret
      exact ⟨by simp, hb1⟩
    · have f0 : ((xs.length : Int) == 0) = false := by simpa using h0
      have b2 : i0.bytes * k ≤ 281474976710656 := by rw [hz2]; omega
      have b3 : k ≤ maxLen := by unfold maxLen; omega
      go_enter Try.func7, Try.ntmps7
      go_wp2_with fail
      refine (alive_any _).mono ?_
      rintro e w1 ⟨rfl, hb1⟩
      have HX1 := Lib.hid (HX.out.below hb1 (Nat.le_refl _))
      have HY1 := Lib.hid (HY.out.below hb1 (Nat.le_refl _))
      have HBB := Lib.hid hb1
      clear hb1
      go_wp2_with fail
      refine (H1.out _ HX1.out HY1.out).mono ?_
      rintro e w2 ⟨rfl, rfl⟩
      go_wp2_with fail
      refine (H2.out _ HY1.out HX1.out).mono ?_
      rintro e w2 ⟨rfl, rfl⟩
      go_wp2_with fail
      refine (M1.out _ HX1.out).mono ?_
      rintro e w2 ⟨rfl, rfl⟩
      go_wp2_with fail
      refine (M2.out _ HY1.out).mono ?_
      rintro e w2 ⟨rfl, rfl⟩
      go_wp2_with (refine wpList_make_full _ rfl _ _ 22 rfl w1.heap.size 3 i0 (.int .i64 0) 1 Try.underlying22 hinfo hz0 hz1 .i64 .i64 _ _ k rfl rfl rfl rfl b2 b3 (Nat.le_refl _) ?_)
      intro w3 hown hgr
      have hb3 := ((Below.refl w1.heap.size w1).grown hgr (Nat.le_refl _) (fun k hk => by cases hk))
      have HX3 := Lib.hid (HX1.out.below hb3 (Nat.le_refl _))
      have HY3 := Lib.hid (HY1.out.below hb3 (Nat.le_refl _))
      have HBB3 := Lib.hid (HBB.out.trans (hb3.mono HBB.out.size))
      have HB13 := Lib.hid hb3
      rw [zeros_eq] at hown
      have HOWN := Lib.hid hown
      obtain ⟨a', c', he, -, -, hop⟩ := HX3.out.open
      cases he
      obtain ⟨b, off, rfl, hbl, hc⟩ := hop 0 (by omega)
      have hsz3 := hb3.size
      have hl1 : (xs.map (Value.int .i64)).length = xs.length * 1 := by simp
      have hnews : ∀ j u, (xs.map (Value.int .i64))[j]? = some u → w3.cell? (Addr.add ⟨b, off, none⟩ j) = some u := fun j u hu => by
        rw [List.getElem?_map, Option.map_eq_some_iff] at hu
        obtain ⟨x, hx, rfl⟩ := hu
        have hj : j < xs.length := (List.getElem?_eq_some_iff.1 hx).1
        rw [Go.WideShapes.add_plain, hc j hj, List.getD_eq_getElem?_getD, hx]; rfl
      have hone : ∀ u ∈ xs.map (Value.int .i64), u.oneCell' = true := fun u hu => by obtain ⟨x, _, rfl⟩ := List.mem_map.1 hu; rfl
      have h63 : k + xs.length ≤ maxLen := by unfold maxLen; omega
      have hby8 : (k + xs.length) * 8 ≤ 140737488355328 := by omega
      have K1 := Lib.hid hl1; have K2 := Lib.hid hnews; have K3 := Lib.hid hone; have K4 := Lib.hid h63; have K5 := Lib.hid hby8; have K6 := Lib.hid hsz3
      clear hown hgr hb3 hop hc hl1 hnews hone h63 hby8 hsz3 b2 b3
      go_wp2_with (at_builtin; go_must (refine wpList_append_own _ rfl _ _ 22 rfl w1.heap.size 3 i0 (.int .i64 0) 1 8 Try.underlying22 hinfo hz0 hz1 hz2 rfl (by decide) _ k ((List.replicate k (0 : Int)).map (Value.int .i64)) rfl HOWN.out ⟨b, off, none⟩ xs.length cap (xs.map (Value.int .i64)) rfl K1.out K2.out K3.out K4.out K5.out K6.out ?_))
      intro v' w4 hown hgr _
      rw [show List.replicate k (Value.int .i64 0) = (List.replicate k (0 : Int)).map (Value.int .i64) from by rw [List.map_replicate], ← List.map_append] at hown
      have hrd := Rd.own hown
      have hb4 : Below w1.heap.size w1 w4 := HB13.out.grown hgr K6.out (fun k hk => (HOWN.out.lt k hk).1)
      have HRD := Lib.hid hrd
      have HY4 := Lib.hid (HY1.out.below hb4 (Nat.le_refl _))
      have HBB4 := Lib.hid (HBB.out.trans (hb4.mono HBB.out.size))
      clear hown hgr hrd hb4
      by_cases hr : RightL (List.replicate k 0 ++ xs)
      · have B3 := Lib.hid (HB3.out v' _ w4 HRD.out HY4.out hr)
        have hle := HPad.out k
        generalize moreT (List.replicate k 0 ++ xs) ys = Z at *
        have d1 : decide ((X : Int) ≤ (Z : Int)) = true := decide_eq_true (by omega)
        have d2 : decide (X ≤ Z) = true := decide_eq_true hle
        clear hr
        go_wp2_with fail
        refine B3.out.mono ?_
        rintro e w5 ⟨rfl, rfl⟩
        go_wp2_with fail
        go_ret
        exact ⟨by simp; try omega, HBB4.out⟩
      · have B3 := Lib.hid (HBad.out v' _ w4 HRD.out HY4.out hr)
        clear hr
        go_wp2_with fail
        refine B3.out.mono ?_
        rintro e w5 ⟨rfl, rfl⟩
        go_wp2_with fail
        go_ret
        exact ⟨by simp, HBB4.out⟩
  · have hor : by_ < 0 ∨ 20 < by_ := by omega
    rcases hor with hlt | hgt
    · have g1 : decide (by_ < 0) = true := decide_eq_true hlt
      go_enter Try.func7, Try.ntmps7
      go_wp2_with fail
      refine (alive_any _).mono ?_
      rintro e w1 ⟨rfl, hb1⟩
      have HX1 := Lib.hid (HX.out.below hb1 (Nat.le_refl _))
      have HY1 := Lib.hid (HY.out.below hb1 (Nat.le_refl _))
      go_wp2_with fail
      refine (H1.out _ HX1.out HY1.out).mono ?_
      rintro e w2 ⟨rfl, rfl⟩
      go_wp2_with fail
      refine (H2.out _ HY1.out HX1.out).mono ?_
      rintro e w2 ⟨rfl, rfl⟩
      go_wp2_with fail
      refine (M1.out _ HX1.out).mono ?_
      rintro e w2 ⟨rfl, rfl⟩
      go_wp2_with fail
      refine (M2.out _ HY1.out).mono ?_
      rintro e w2 ⟨rfl, rfl⟩
      go_wp2_with fail
      go_ret
      exact ⟨by simp, hb1⟩
    · have g1 : decide (by_ < 0) = false := decide_eq_false (by omega)
      have g2 : decide (20 < by_) = true := decide_eq_true hgt
      go_enter Try.func7, Try.ntmps7
      go_wp2_with fail
      refine (alive_any _).mono ?_
      rintro e w1 ⟨rfl, hb1⟩
      have HX1 := Lib.hid (HX.out.below hb1 (Nat.le_refl _))
      have HY1 := Lib.hid (HY.out.below hb1 (Nat.le_refl _))
      go_wp2_with fail
      refine (H1.out _ HX1.out HY1.out).mono ?_
      rintro e w2 ⟨rfl, rfl⟩
      go_wp2_with fail
      refine (H2.out _ HY1.out HX1.out).mono ?_
      rintro e w2 ⟨rfl, rfl⟩
      go_wp2_with fail
      refine (M1.out _ HX1.out).mono ?_
      rintro e w2 ⟨rfl, rfl⟩
      go_wp2_with fail
      refine (M2.out _ HY1.out).mono ?_
      rintro e w2 ⟨rfl, rfl⟩
      go_wp2_with fail
      go_ret
      exact ⟨by simp, hb1⟩
theorem walk (a : Option Addr) (len cap : Nat) (z : List Int) (a2 : Option Addr) (len2 cap2 : Nat) (z2 : List Int) (by_ : Int) (w : World) (h : IsRow .i64 w a len cap z) (h2 : IsRow .i64 w a2 len2 cap2 z2) (_ : (Lit.int .i64 by_).wf = true) :
    Calls Try.prog 7 #[.slice a len cap, .slice a2 len2 cap2, .int .i64 by_] w fun e w' => e = .returned (.bool true) ∧ Below w.heap.size w w' := by
  by_cases hr : RightL (z.take len) ∧ RightL (z2.take len2)
  · exact walk_ok _ _ _ _ by_ w h.rd.1 h2.rd.1 hr.1 hr.2
  · exact walk_bad _ _ _ _ by_ w h.rd.1 h2.rd.1 hr
end Go.Proofs.Ythjdhnjclcijhaa.diceBeats
