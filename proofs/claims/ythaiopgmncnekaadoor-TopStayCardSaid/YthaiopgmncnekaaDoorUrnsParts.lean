/- Walks of urns.wrong and Parts. No condition. -/
import Derived.Test.YthaiopgmncnekaaDoorUrnsDef
import Derived.Test.YthaiopgmncnekaaDoorGen
import Derived.BigRegion
set_option linter.unusedSimpArgs false
set_option linter.unusedVariables false
set_option maxRecDepth 20000
namespace Go.Proofs.YthaiopgmncnekaaDoor.Urns
open Go.RowKit
theorem Tryd.info3 : (Tryd.prog.info? 3).map (fun i => (i.zero, i.size, i.bytes)) = some (some (.int .i64 0), 1, 8) := by kernel_rfl
theorem wrong_no (n k : Nat) (hn : n ≤ 20) (hk : k ≤ 20) (w : World) : Calls Tryd.prog 40 #[.int .i64 n, .int .i64 k] w fun e w' => e = .returned (.bool false) ∧ w = w' := by
  go_enter Tryd.func40, Tryd.ntmps40
  go_wp2_with fail
  go_ret
  exact ⟨by simp; omega, rfl⟩
set_option maxRecDepth 20000 in
set_option maxHeartbeats 800000 in
theorem Parts_any (n k : Nat) (hn : n ≤ 20) (hk : k ≤ 20) (w : World) : Calls Tryd.prog 19 #[.int .i64 n, .int .i64 k] w fun e w' => e = .returned (.tuple #[.int .i64 (parts n k), .int .i64 0]) ∧ Below w.heap.size w w' := by
  obtain ⟨i0, hi, hz0, hz1, hz2⟩ := info_parts Tryd.info3
  go_enter Tryd.func19, Tryd.ntmps19
  go_wp2_with fail
  refine (wrong_no n k hn hk _).mono ?_
  rintro e w' ⟨rfl, rfl⟩
  go_wp2_with (refine wpList_make_full _ rfl _ _ 30 rfl w.heap.size 3 i0 (.int .i64 0) 1 Tryd.underlying30 hi hz0 hz1 .i64 .i64 _ _ (k + 1) rfl rfl ?hL ?hC ?b2 ?b3 (Nat.le_refl _) ?_)
  case hL => simp
  case hC => simp
  case b2 => rw [hz2]; omega
  case b3 => unfold maxLen; omega
  intro w4 hown hgr
  rw [zeros_eq] at hown
  have hB4 : Below w.heap.size w w4 := (Below.refl _ _).grown hgr (Nat.le_refl _) (fun k hk => by cases hk)
  clear hgr
  generalize hgg : w.heap.size = g at *
  have HGG := Lib.hid hgg; clear hgg
  have c0 := own_get hown 0 (by omega)
  have cf := hown.frozenAt 0
  have HO := Lib.hid (own_set hown 0 1)
  have HB := Lib.hid (hB4.setCell (Nat.le_refl _) (p := ⟨g, 0, none⟩) (.int .i64 1))
  clear hown hB4
  go_wp2_with fail
  go_loopw [17] (fun i wr => ∃ m : Nat, m ≤ n ∧ i = .int .i64 m ∧ wr.ownsRow g 3 1 (.slice (some ⟨g, 0, none⟩) (k + 1) (k + 1)) (k + 1) ((prow k m).map (Value.int .i64)) ∧ Below g w wr) (fun i _ => n - (intOf i).toNat)
  case atStart => exact ⟨0, Nat.zero_le _, rfl, HO.out, HB.out⟩
  case round =>
    clear HO HB c0 cf
    obtain ⟨m, hm, rfl, hown, hbel⟩ := hrel
    by_cases hlt : m < n
    · go_wp2_with fail
      have HSM := Lib.hid (fun i hi => rin_small k m i hk (by omega) hi)
      obtain ⟨wo, rfl⟩ : ∃ wo : World, wo = wr := ⟨_, rfl⟩
      go_loopw [7] (fun jv wr => ∃ i j : Nat, i + j = k ∧ jv = .int .i64 j ∧ wr.ownsRow g 3 1 (.slice (some ⟨g, 0, none⟩) (k + 1) (k + 1)) (k + 1) ((rin (prow k m) k i).map (Value.int .i64)) ∧ Below g w wr) (fun jv _ => (intOf jv).toNat)
      case atStart => exact ⟨0, k, by omega, rfl, hown, hbel⟩
      case round =>
        clear hown hbel
        obtain ⟨i, j, hij, rfl, hown, hbel⟩ := hrel
        by_cases h1 : 1 ≤ j
        · obtain ⟨q, rfl⟩ : ∃ q, j = q + 1 := ⟨j - 1, by omega⟩
          have c1 := own_get hown (q + 1) (by omega)
          have c2 := own_get hown q (by omega)
          have cf := hown.frozenAt (q + 1)
          have b1 := small_get (HSM.out i (by omega)) (q + 1)
          have b2 := small_get (HSM.out i (by omega)) q
          have HN : Hid (rin (prow k m) k (i + 1) = (rin (prow k m) k i).set (q + 1) (((q + 1 : Nat) : Int) * (rin (prow k m) k i).getD (q + 1) 0 + (rin (prow k m) k i).getD q 0)) := by
            show _ = _
            rw [rin, cellNew, show k - i = q + 1 by omega]; rfl
          have HO2 := Lib.hid (own_set hown (q + 1) (((q + 1 : Nat) : Int) * (rin (prow k m) k i).getD (q + 1) 0 + (rin (prow k m) k i).getD q 0))
          have HB2 := Lib.hid (hbel.setCell (Nat.le_refl _) (p := ⟨g, q + 1, none⟩) (.int .i64 (((q + 1 : Nat) : Int) * (rin (prow k m) k i).getD (q + 1) 0 + (rin (prow k m) k i).getD q 0)))
          rw [← HN.out] at HO2
          clear hown hbel HN
          have m0 : 0 ≤ ((q : Int) + 1) * (rin (prow k m) k i).getD (q + 1) 0 := Int.mul_nonneg (by omega) b1.1
          have m1 : ((q : Int) + 1) * (rin (prow k m) k i).getD (q + 1) 0 ≤ 20 * 100000000000000 := Int.mul_le_mul (by omega) b1.2 b1.1 (by omega)
          have m2 : ((q : Int) + 1) * (rin (prow k m) k i).getD (q + 1) 0 ≤ 2000000000000000 := by omega
          clear m1
          generalize (rin (prow k m) k i).getD (q + 1) 0 = x at *
          generalize (rin (prow k m) k i).getD q 0 = y at *
          go_wp2_with fail
          go_region
          go_wp2_with fail
          go_roundw
          case rel => exact ⟨i + 1, q, by omega, rfl, HO2.out, HB2.out.drew⟩
          case measure => simp [intOf]
        · obtain rfl : j = 0 := by omega
          obtain rfl : i = k := by omega
          have c1 := own_get hown 0 (by omega)
          have cf := hown.frozenAt 0
          have HO2 : Hid ((wr.setCell ⟨g, 0, none⟩ (.int .i64 0)).ownsRow g 3 1 (.slice (some ⟨g, 0, none⟩) (i + 1) (i + 1)) (i + 1) ((prow i (m + 1)).map (Value.int .i64))) := own_set hown 0 0
          have HB2 := Lib.hid (hbel.setCell (Nat.le_refl _) (p := ⟨g, 0, none⟩) (.int .i64 0))
          clear hown hbel
          go_wp2_with fail
          go_roundw
          case rel => exact ⟨m + 1, by omega, by go_num, HO2.out, HB2.out⟩
          case measure => simp [intOf]; omega
    · obtain rfl : m = n := by omega
      have c1 := own_get hown k (by omega)
      have HP : Hid ((prow k m).getD k 0 = parts m k) := rfl
      generalize (prow k m).getD k 0 = x at *
      clear hown
      go_wp2_with fail
      go_ret2
      exact ⟨by rw [← HP.out]; rfl, by rw [HGG.out]; exact hbel⟩
end Go.Proofs.YthaiopgmncnekaaDoor.Urns
