/- The document's sum over all pairs: what it answers. Condition: a row within the reach. -/
import Derived.Test.YtdlnjalkbgkhdaaCpt
set_option linter.unusedSimpArgs false
set_option linter.unusedVariables false
namespace Go.Proofs.Ytdlnjalkbgkhdaa
open Go.RowKit
set_option maxHeartbeats 1600000 in
theorem psp_any (v : Value) (zs : List Int) (w : World) (h : Rd w v zs) (hok : OkL zs) :
    Calls Try.prog 15 #[v] w fun e w' => e = .returned (.int .i64 (spr zs)) ∧ Below w.heap.size w w' := by
  obtain ⟨a, cap, rfl, hlc, hcm, hop⟩ := h.open
  obtain ⟨h4, hs⟩ := hok
  obtain ⟨n, hn⟩ : ∃ n, zs.length = n := ⟨_, rfl⟩
  rw [hn] at hop hlc h4 ⊢
  have HN := Lib.hid hn
  have HO := Lib.hid hop
  have HSM := Lib.hid hs
  clear h hop hn hs
  go_enter Try.func15, Try.ntmps15
  go_wp2_with fail
  go_loopw [10, 3] (fun iv sv wr => ∃ (k : Nat) (S : Int), k ≤ n ∧ iv = .int .i64 k ∧ sv = .int .i64 S ∧ Hid (S = spr (zs.take k)) ∧ Hid (∃ q, wr = w.drewN q)) (fun iv _ _ => n - (intOf iv).toNat)
  case atStart => exact ⟨0, 0, Nat.zero_le _, rfl, rfl, (by show (0 : Int) = _; simp [spr]), ⟨0, rfl⟩⟩
  case round =>
    obtain ⟨k, S, hk, rfl, rfl, HS, HWR⟩ := hrel
    obtain ⟨q, hq⟩ := HWR.out
    subst hq
    by_cases hkn : k < n
    · obtain ⟨b, off, rfl, hb, hc⟩ := HO.out k hkn
      have c1 : (w.drewN q).cell? ⟨b, off + k, none⟩ = some (.int .i64 (zs.getD k 0)) := hc k hkn
      have HCC : Hid (∀ i, i < n → w.cell? ⟨b, off + i, none⟩ = some (.int .i64 (zs.getD i 0))) := hc
      have HTT := Lib.hid (spr_take zs k (by rw [HN.out]; exact hkn))
      have hbd := spr_bd2 (HSM.out.take k) (by rw [List.length_take]; omega)
      have hx := HSM.out _ (getD_memI zs k (by rw [HN.out]; exact hkn))
      rw [List.length_take, HN.out, Nat.min_eq_left hk, ← HS.out] at hbd
      have hSb : 0 ≤ S ∧ S ≤ 703687441776640000 := by omega
      clear hc hbd
      generalize hxx : zs.getD k 0 = x at *
      have hkc : k ≤ cap := by omega
      have p0 : (0 ≤ (k : Int) ∧ (k : Int) ≤ (cap : Int)) = True := eq_true ⟨by omega, by omega⟩
      clear hxx
      go_wp2_with fail
      go_loopw [19, 3] (fun iv sv wr => ∃ (j : Nat) (Z : Int), j ≤ k ∧ iv = .int .i64 j ∧ sv = .int .i64 Z ∧ Hid (Z = S + far x ((zs.take k).take j)) ∧ Hid (∃ q, wr = w.drewN q)) (fun iv _ _ => k - (intOf iv).toNat)
      case atStart => exact ⟨0, S, Nat.zero_le _, rfl, rfl, (by show S = _; simp [far]), ⟨_, rfl⟩⟩
      case round =>
        obtain ⟨j, Z, hj, rfl, rfl, HZ, HWR⟩ := hrel
        obtain ⟨q, hq⟩ := HWR.out
        subst hq
        by_cases hjk : j < k
        · have c2 : (w.drewN q).cell? ⟨b, off + j, none⟩ = some (.int .i64 (zs.getD j 0)) := HCC.out j (by omega)
          have hl : (zs.take k).length = k := by rw [List.length_take, HN.out]; omega
          have hft := far_take x (zs.take k) j (by rw [hl]; exact hjk)
          have hy := HSM.out _ (getD_memI zs j (by rw [HN.out]; omega))
          have hge : (zs.take k).getD j 0 = zs.getD j 0 := by
            rw [List.getD_eq_getElem?_getD, List.getElem?_take_of_lt hjk, List.getD_eq_getElem?_getD]
          rw [hge] at hft
          have hbd := far_bd hx ((HSM.out.take k).take j)
          rw [List.length_take, hl, Nat.min_eq_left (Nat.le_of_lt hjk)] at hbd
          have hZ := HZ.out
          clear hge
          generalize zs.getD j 0 = y at *
          have hdb := dif_bd hx hy
          obtain ⟨d, hd⟩ : ∃ z, x - y = z := ⟨_, rfl⟩
          rw [hd] at hft hdb
          obtain ⟨dd, hdd⟩ : ∃ z, d * d = z := ⟨_, rfl⟩
          rw [hdd] at hft hdb
          obtain ⟨Z', hZ'⟩ : ∃ z, Z + dd = z := ⟨_, rfl⟩
          have y1 : IntKind.i64.wrap (x - y) = d := by rw [IntKind.wrap_i64]; omega
          have y2 : IntKind.i64.wrap (d * d) = dd := by rw [IntKind.wrap_i64, hdd]; omega
          have y3 : IntKind.i64.wrap (Z + dd) = Z' := by rw [IntKind.wrap_i64]; omega
          have HZn : Hid (Z' = S + far x ((zs.take k).take (j + 1))) := by show _ = _; rw [hft]; omega
          have hcm' : j < cap := by omega
          clear hft hy hbd hZ hdb hd hdd hZ' hl
          go_wp2_with fail
          go_roundw
          case rel => exact ⟨j + 1, Z', by omega, by go_num, rfl, HZn.out, ⟨_, rfl⟩⟩
          case measure => simp [intOf]; omega
        · obtain rfl : j = k := by omega
          have hZ := HZ.out
          have HSn : Hid (Z = spr (zs.take (j + 1))) := by
            show _ = _
            rw [HTT.out, hZ, ← HS.out, List.take_of_length_le (by rw [List.length_take]; omega)]
          clear hZ HZ
          go_wp2_with fail
          go_roundw
          case rel => exact ⟨j + 1, Z, by omega, by go_num, rfl, HSn.out, ⟨_, rfl⟩⟩
          case measure => simp [intOf]; omega
    · obtain rfl : n = k := by omega
      have hS := HS.out
      rw [List.take_of_length_le (by rw [HN.out]; exact Nat.le_refl _)] at hS
      have HS2 := Lib.hid hS
      clear HS hS
      go_wp2_with fail
      go_ret
      exact ⟨by show Ending.returned (.int .i64 S) = _; rw [HS2.out], (Below.refl _ _).drewN _⟩
end Go.Proofs.Ytdlnjalkbgkhdaa
