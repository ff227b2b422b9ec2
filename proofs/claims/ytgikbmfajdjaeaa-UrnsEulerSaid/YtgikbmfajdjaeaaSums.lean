/- Walks of urns.Sums and Spread in their range. No condition. -/
import Derived.Test.YtgikbmfajdjaeaaSumsLaw
import Derived.Test.YtgikbmfajdjaeaaParts
import Derived.Test.YtgikbmfajdjaeaaCombo
set_option linter.unusedSimpArgs false
set_option linter.unusedVariables false
namespace Go.Proofs.Ytgikbmfajdjaeaa
open Go.RowKit
/-- the row in stage j, up to m -/
def mid (f g : Nat → Nat) (m i : Nat) : Int := if i < m then (g i : Nat) else (f i : Nat)
theorem mid_step (f g : Nat → Nat) (m i : Nat) (x : Int) (hx : x = (g m : Nat)) : (if i = m then x else mid f g m i) = mid f g (m + 1) i := by
  unfold mid
  by_cases h : i = m
  · subst h; rw [if_pos rfl, if_pos (by omega), hx]
  · rw [if_neg h]
    by_cases h2 : i < m
    · rw [if_pos h2, if_pos (by omega)]
    · rw [if_neg h2, if_neg (by omega)]
theorem pr_step (j m : Nat) (h : j + 1 ≤ m) : pr (j + 1) m = pr j m + pr (j + 1) (m - (j + 1)) := by
  show adds (j + 1) (pr j) m = pr j m + adds (j + 1) (pr j) (m - (j + 1))
  exact adds_step _ (by omega) _ _ h
set_option maxHeartbeats 800000 in
theorem Sums_in (n k d : Nat) (hn : n ≤ 40) (hk : 1 ≤ k) (hd : n = k + d) (w : World) : Calls Try.prog 15 #[.int .i64 n, .int .i64 k] w fun e w' => e = .returned (.tuple #[.int .i64 (pr k d : Nat), .int .i64 0]) ∧ Below w.heap.size w w' := by
  obtain ⟨i0, hi, hz0, hz1, hz2⟩ := info_parts Try.info3
  have e1 : (n : Int) - (k : Int) = (d : Int) := by omega
  have k0 : ((k : Int) == 0) = false := by simp; omega
  have k1 : ¬ ((n : Int) < (k : Int)) := by omega
  have k2 : ¬ ((60 : Int) < (n : Int)) := by omega
  have k3 : ¬ ((60 : Int) < (k : Int)) := by omega
  have k4 : d ≤ 40 := by omega
  have k5 : k ≤ 40 := by omega
  clear hd
  go_enter Try.func15, Try.ntmps15
  go_wp2_with (refine wpList_make_full _ rfl _ _ 31 rfl w.heap.size 3 i0 (.int .i64 0) 1 Try.underlying31 hi hz0 hz1 .i64 .i64 _ _ (d + 1) rfl rfl rfl rfl ?b2 ?b3 (Nat.le_refl _) ?_)
  case b2 => omega
  case b3 => unfold maxLen; omega
  intro w4 hown hgr
  have hB4 : Below w.heap.size w w4 := (Below.refl _ _).grown hgr (Nat.le_refl _) (fun k hk => by cases hk)
  clear hgr
  have ho := OT.made hown
  clear hown
  generalize hgg : w.heap.size = g at *
  have HGG := Lib.hid hgg; clear hgg
  have c0 := ho.get 0 (by omega)
  have cf := ho.frozen 0
  have HO := Lib.hid ((ho.set 0 1).congr (f' := fun i => (pr 0 i : Nat)) fun i hi => by by_cases h : i = 0 <;> simp [pr, h])
  have HB := Lib.hid (hB4.setCell (Nat.le_refl _) (p := ⟨g, 0, none⟩) (.int .i64 1))
  clear ho hB4
  go_wp2_with fail
  go_loopw [7] (fun i wr => ∃ j : Nat, j ≤ k ∧ i = .int .i64 ((j : Int) + 1) ∧ OT wr g g (d + 1) (fun i => (pr j i : Nat)) ∧ Below g w wr) (fun i _ => k + 1 - (intOf i).toNat)
  case atStart => exact ⟨0, Nat.zero_le _, rfl, HO.out, HB.out⟩
  case round =>
    clear HO HB c0 cf
    obtain ⟨j, hj, rfl, ho, hbel⟩ := hrel
    by_cases hlt : j < k
    · have hlt' : (j : Int) + 1 ≤ (k : Int) := by omega
      go_wp2_with fail
      obtain ⟨wo, rfl⟩ : ∃ wo : World, wo = wr := ⟨_, rfl⟩
      go_loopw [8] (fun iv wi => ∃ m : Nat, j + 1 ≤ m ∧ (m ≤ d + 1 ∨ m = j + 1) ∧ iv = .int .i64 m ∧ OT wi g g (d + 1) (mid (pr j) (pr (j + 1)) m) ∧ Below g w wi) (fun iv _ => d + 1 - (intOf iv).toNat)
      case atStart => exact ⟨j + 1, by omega, .inr rfl, by go_num, ho.congr fun i hi => by
        unfold mid
        by_cases h : i < j + 1
        · rw [if_pos h, pr, adds_low _ _ _ h]
        · rw [if_neg h], hbel⟩
      case round =>
        clear ho hbel
        obtain ⟨m, hm1, hm2, rfl, ho, hbel⟩ := hrel
        by_cases hml : m ≤ d
        · have c1 := ho.get m (by omega)
          have c2 := ho.get (m - (j + 1)) (by omega)
          have cf := ho.frozen m
          have m1 : mid (pr j) (pr (j + 1)) m m = (pr j m : Nat) := by unfold mid; rw [if_neg (by omega)]
          have m2 : mid (pr j) (pr (j + 1)) m (m - (j + 1)) = (pr (j + 1) (m - (j + 1)) : Nat) := by unfold mid; rw [if_pos (by omega)]
          rw [m1] at c1
          rw [m2] at c2
          have b1 := pr_bd j m (by omega) (by omega)
          have b2 := pr_bd (j + 1) (m - (j + 1)) (by omega) (by omega)
          have HE : Hid ((pr j m : Int) + (pr (j + 1) (m - (j + 1)) : Int) = (pr (j + 1) m : Nat)) := by
            show _ = _
            rw [pr_step j m hm1, Int.natCast_add]
          have HO2 := Lib.hid (ho.set m ((pr j m : Int) + (pr (j + 1) (m - (j + 1)) : Int)))
          have HB2 := Lib.hid (hbel.setCell (Nat.le_refl _) (p := ⟨g, m, none⟩) (.int .i64 ((pr j m : Int) + (pr (j + 1) (m - (j + 1)) : Int))))
          clear ho hbel m1 m2
          obtain ⟨q, hq⟩ : ∃ q : Nat, m - (j + 1) = q := ⟨_, rfl⟩
          have hq2 : (m : Int) - ((j : Int) + 1) = (q : Int) := by omega
          rw [hq] at c2 b2 HE HO2 HB2
          have q1 : q ≤ d := by omega
          clear hq
          have hml' : (m : Int) ≤ (d : Int) := by omega
          generalize hx : pr j m = x at *
          generalize hy : pr (j + 1) q = y at *
          clear hx hy
          go_wp2_with fail
          go_region
          go_wp2_with fail
          go_roundw
          case rel =>
            refine ⟨m + 1, by omega, .inl (by omega), by go_num, HO2.out.congr fun i hi => mid_step _ _ _ _ _ HE.out, HB2.out.drew⟩
          case measure => simp [intOf]; omega
        · have HO3 := Lib.hid (ho.congr (f' := fun i => (pr (j + 1) i : Nat)) fun i hi => by
            unfold mid; rw [if_pos (by omega)])
          have hB3 := Lib.hid hbel
          have hml' : ¬ ((m : Int) ≤ (d : Int)) := by omega
          clear ho hbel
          go_wp2_with fail
          go_roundw
          case rel => exact ⟨j + 1, by omega, by go_num, HO3.out, hB3.out⟩
          case measure => simp [intOf]; omega
    · obtain rfl : j = k := by omega
      have c1 := ho.get d (by omega)
      have cf := ho.frozen d
      have hge : ¬ ((j : Int) + 1 ≤ (j : Int)) := by omega
      have HB := Lib.hid hbel
      clear ho hbel
      generalize hx : pr j d = x at *
      have HX := Lib.hid hx; clear hx
      go_wp2_with fail
      go_ret2
      exact ⟨by rw [HX.out]; rfl, by rw [HGG.out]; exact HB.out⟩
theorem Sums_any (n k : Nat) (hn : n ≤ 40) (hk : k ≤ 40) (w : World) : Calls Try.prog 15 #[.int .i64 n, .int .i64 k] w fun e w' => e = .returned (.tuple #[.int .i64 (sums n k : Nat), .int .i64 0]) ∧ Below w.heap.size w w' := by
  by_cases h1 : n < k
  · have HS : Hid (sums n k = 0) := by show _ = _; rw [sums, if_pos h1]
    have k0 : ((k : Int) == 0) = false := by simp; omega
    go_enter Try.func15, Try.ntmps15
    go_wp2_with fail
    all_goals
      go_ret2
      exact ⟨by rw [HS.out]; rfl, Below.refl _ _⟩
  · by_cases h2 : k = 0
    · subst h2
      by_cases h3 : n = 0
      · subst h3
        go_enter Try.func15, Try.ntmps15
        go_wp2_with fail
        go_ret2
        exact ⟨rfl, Below.refl _ _⟩
      · have k0 : ((n : Int) == 0) = false := by simp; omega
        have HS : Hid (sums n 0 = 0) := by show _ = _; rw [sums, if_neg (by omega), pr, if_neg (by omega)]
        go_enter Try.func15, Try.ntmps15
        go_wp2_with fail
        go_ret2
        exact ⟨by rw [HS.out]; rfl, Below.refl _ _⟩
    · have := Sums_in n k (n - k) hn (by omega) (by omega) w
      rwa [show pr k (n - k) = sums n k by rw [sums, if_neg h1]] at this
end Go.Proofs.Ytgikbmfajdjaeaa
