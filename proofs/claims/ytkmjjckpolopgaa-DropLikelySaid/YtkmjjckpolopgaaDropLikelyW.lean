/- The walk of DropLikely. No condition beyond rows within the reach. -/
import Derived.Test.YtkmjjckpolopgaaAl
import Derived.Test.YtkmjjckpolopgaaSumL
set_option linter.unusedSimpArgs false
set_option linter.unusedVariables false
namespace Go.Proofs.Ytkmjjckpolopgaa.dropLikely
open Go.RowKit Go.Proofs.Ytkmjjckpolopgaa
set_option maxHeartbeats 1600000 in
theorem run (v : Value) (zs : List Int) (keep : Int) (w : World) (h : Rd w v zs) :
    Calls Try.prog 4 #[v, .int .i64 keep] w fun e w' => e = .returned (.bool true) ∧ Below w.heap.size w w' := by
  have HR := Lib.hid h
  obtain ⟨a, cap, he1, -, -, hop⟩ := h.open
  obtain ⟨n, hn⟩ : ∃ n, zs.length = n := ⟨_, rfl⟩
  rw [hn] at he1 hop
  have HN := Lib.hid hn
  have HOP := Lib.hid hop
  by_cases hok : OkD zs keep
  · by_cases hk : (n : Int) ≤ keep
    · have HL := Lib.hid (fun w1 hb1 => lev_few_any v zs keep w1 (HR.out.below (w' := w1) hb1 (Nat.le_refl _)) hok (by omega))
      have HH := Lib.hid (fun w1 hb1 => hv_good v zs keep w1 (HR.out.below (w' := w1) hb1 (Nat.le_refl _)) hok)
      rw [hn] at HH
      unfold fr at HL
      have t0 : ((n : Int) != (n : Int)) = false := by simp
      have t1 : decide ((n : Int) ≤ keep) = true := decide_eq_true hk
      subst he1
      clear h hn hop HOP hok hk
      go_enter Try.func4, Try.ntmps4
      go_wp2_with fail
      refine (alive_any w).mono ?_
      rintro e w1 ⟨rfl, hb1⟩
      have HB1 := Lib.hid hb1
      have HC := Lib.hid (HL.out w1 hb1)
      clear hb1
      go_wp2_with fail
      refine HC.out.mono ?_
      rintro e w2 ⟨rfl, hb2⟩
      obtain ⟨w3, hw3⟩ : ∃ X, w2.alloc (.cells #[.int .i64 0, .int .i64 0] 25) = X := ⟨_, rfl⟩
      have hb3 : Below w.heap.size w w3 := by rw [← hw3]; exact (HB1.out.trans (hb2.mono HB1.out.size)).alloc (by have := HB1.out.size; have := hb2.size; omega) _
      have HB3 := Lib.hid hb3
      have HK := Lib.hid (kept2 hw3)
      have HC := Lib.hid (HH.out w3 hb3)
      have HW3 := Lib.hid hw3
      clear hb3 hb2 hw3
      go_wp2_with fail
      rw [HW3.out]
      refine HC.out.mono ?_
      rintro e w4 ⟨v4, rfl, ho4, hb4⟩
      have HB4 := Lib.hid (HB3.out.trans (hb4.mono HB3.out.size))
      obtain ⟨c0, c1⟩ := HK.out w4 hb4
      obtain ⟨a4, cap4, rfl, -⟩ := (RdB.own ho4).open
      rw [hvy_len, HN.out]
      clear hb4 ho4 HC HH HL HK
      go_wp2_with fail
      go_ret
      exact ⟨rfl, HB4.out⟩
    · have HL := Lib.hid (fun w1 hb1 => lev_many_any v zs keep w1 (HR.out.below (w' := w1) hb1 (Nat.le_refl _)) hok (by omega))
      have HH := Lib.hid (fun w1 hb1 => hv_good v zs keep w1 (HR.out.below (w' := w1) hb1 (Nat.le_refl _)) hok)
      obtain ⟨a1, a2, a3, a4, a5⟩ := lev_law hok (by omega)
      have HS := Lib.hid a5
      clear a5
      obtain ⟨h1, h2, h3, h4⟩ := hok
      generalize (lev zs keep).1 = N at *
      generalize (lev zs keep).2 = D at *
      have HW := Lib.hid h4
      rw [hn] at HH h1
      unfold fr at HL
      have t0 : ((n : Int) != (n : Int)) = false := by simp
      have t1 : (D == 0) = false := by rw [beq_eq_false_iff_ne]; omega
      subst he1
      clear h hn hop hk h4
      go_enter Try.func4, Try.ntmps4
      go_wp2_with fail
      refine (alive_any w).mono ?_
      rintro e w1 ⟨rfl, hb1⟩
      have HB1 := Lib.hid hb1
      have HC := Lib.hid (HL.out w1 hb1)
      clear hb1
      go_wp2_with fail
      refine HC.out.mono ?_
      rintro e w2 ⟨rfl, hb2⟩
      obtain ⟨w3, hw3⟩ : ∃ X, w2.alloc (.cells #[.int .i64 N, .int .i64 D] 25) = X := ⟨_, rfl⟩
      have hb3 : Below w.heap.size w w3 := by rw [← hw3]; exact (HB1.out.trans (hb2.mono HB1.out.size)).alloc (by have := HB1.out.size; have := hb2.size; omega) _
      have HB3 := Lib.hid hb3
      have HK := Lib.hid (kept2 hw3)
      have HC := Lib.hid (HH.out w3 hb3)
      have HW3 := Lib.hid hw3
      clear hb3 hb2 hw3
      go_wp2_with fail
      rw [HW3.out]
      refine HC.out.mono ?_
      rintro e w4 ⟨v4, rfl, ho4, hb4⟩
      have HB4 := Lib.hid (HB3.out.trans (hb4.mono HB3.out.size))
      obtain ⟨B, hB⟩ : ∃ B, w2.heap.size = B := ⟨_, rfl⟩
      rw [hB] at HK ⊢
      obtain ⟨c0, c1⟩ := HK.out w4 hb4
      have HCC := Lib.hid (And.intro c0 c1)
      obtain ⟨x4, cap4, rfl, -, -, hop4⟩ := (RdB.own ho4).open
      rw [hvy_len, HN.out] at hop4 ⊢
      have HOPB := Lib.hid hop4
      clear hb4 ho4 HC HH HL HK hop4 hB HW3
      go_wp2_with fail
      clear t0 t1 c0 c1
      go_loopw [59, 9] (fun iv sv wr => ∃ (k : Nat) (S : Int), k ≤ n ∧ iv = .int .i64 k ∧ sv = .int .i64 S ∧ Hid (S = mn N D (zs.take k)) ∧ Hid (∃ q, wr = w4.drewN q)) (fun iv _ _ => n - (intOf iv).toNat)
      case atStart => exact ⟨0, 0, Nat.zero_le _, rfl, rfl, (by show (0 : Int) = _; simp [mn]), ⟨0, rfl⟩⟩
      case round =>
        obtain ⟨k, S, hk, rfl, rfl, HSS, HWR⟩ := hrel
        obtain ⟨q, hq⟩ := HWR.out
        subst hq
        by_cases hkn : k < n
        · obtain ⟨b, off, rfl, hb, hc1⟩ := HOP.out k hkn
          obtain ⟨b', off', rfl, hb', hc2⟩ := HOPB.out k hkn
          have d1 : (w4.drewN q).cell? ⟨b, off + k, none⟩ = some (.int .i64 (zs.getD k 0)) := (World.cell?_of_block (HB4.out.block b hb)).trans (hc1 k hkn)
          have d2 : (w4.drewN q).cell? ⟨b', off' + k, none⟩ = some (.bool ((hvy N D zs).getD k false)) := hc2 k hkn
          rw [hvy_get _ _ _ _ (by rw [HN.out]; exact hkn)] at d2
          have d3 : (w4.drewN q).cell? ⟨B, 1, none⟩ = some (.int .i64 D) := HCC.out.2
          have d4 : (w4.drewN q).cell? ⟨B, 0, none⟩ = some (.int .i64 N) := HCC.out.1
          have hmn := mn_take N D zs k (by rw [HN.out]; exact hkn)
          have hx := HW.out _ (getD_memI zs k (by rw [HN.out]; exact hkn))
          have hb1 := hs_le_mn (N := N) (D := D) (by omega) (by omega) (HW.out.take k)
          rw [List.length_take, HN.out, Nat.min_eq_left hk] at hb1
          rw [← HSS.out] at hmn hb1
          clear hc1 hc2
          generalize zs.getD k 0 = x at *
          have hSb : 0 ≤ S ∧ S ≤ 400 * 419430400 := ⟨hb1.2.1, Int.le_trans hb1.2.2 (Int.mul_le_mul (by omega) (by omega) (by omega) (by omega))⟩
          have hxb : 0 ≤ x * D ∧ x * D ≤ 1048576 * 400 := ⟨Int.mul_nonneg (by omega) (by omega), Int.mul_le_mul (by omega) (by omega) (by omega) (by omega)⟩
          rw [isH_min (by omega)] at hmn
          obtain ⟨xd, hxd⟩ : ∃ z, x * D = z := ⟨_, rfl⟩
          rw [hxd] at hxb hmn
          have y1 : IntKind.i64.wrap (x * D) = xd := by rw [IntKind.wrap_i64, hxd]; omega
          have p1 : (0 ≤ (k : Int) ∧ (k : Int) < (n : Int)) = True := eq_true ⟨by omega, by omega⟩
          by_cases g : isH N D x = true
          · rw [if_pos g] at hmn
            rw [g] at d2
            obtain ⟨S', hS'⟩ : ∃ z, S + N = z := ⟨_, rfl⟩
            have y2 : IntKind.i64.wrap (S + N) = S' := by rw [IntKind.wrap_i64]; omega
            have HSn : Hid (S' = mn N D (zs.take (k + 1))) := by show _ = _; rw [hmn, hS']
            clear hmn hx hb1 hSb hxb hxd hS' g hb hb'
            go_wp2_with fail
            go_roundw
            case rel => exact ⟨k + 1, S', by omega, by go_num, rfl, HSn.out, ⟨_, rfl⟩⟩
            case measure => simp [intOf]; omega
          · rw [if_neg g] at hmn
            rw [Bool.not_eq_true] at g
            rw [g] at d2
            obtain ⟨S', hS'⟩ : ∃ z, S + xd = z := ⟨_, rfl⟩
            have y2 : IntKind.i64.wrap (S + xd) = S' := by rw [IntKind.wrap_i64]; omega
            have HSn : Hid (S' = mn N D (zs.take (k + 1))) := by show _ = _; rw [hmn, hS']
            clear hmn hx hb1 hSb hxb hxd hS' g hb hb'
            go_wp2_with fail
            go_roundw
            case rel => exact ⟨k + 1, S', by omega, by go_num, rfl, HSn.out, ⟨_, rfl⟩⟩
            case measure => simp [intOf]; omega
        · obtain rfl : k = n := by omega
          have hSS := HSS.out
          rw [List.take_of_length_le (by rw [HN.out]; exact Nat.le_refl _), HS.out] at hSS
          have hKN : 0 ≤ keep * N ∧ keep * N ≤ 400 * 419430400 := ⟨Int.mul_nonneg (by omega) (by omega), Int.mul_le_mul (by omega) (by omega) (by omega) (by omega)⟩
          have y1 : IntKind.i64.wrap (keep * N) = S := by rw [IntKind.wrap_i64, ← hSS]; rw [← hSS] at hKN; omega
          have t2 : (S == S) = true := by simp
          have d3 : (w4.drewN q).cell? ⟨B, 0, none⟩ = some (.int .i64 N) := HCC.out.1
          clear hSS hKN
          go_wp2_with fail
          go_ret
          exact ⟨rfl, HB4.out.drewN _⟩
  · have HL := Lib.hid (fun w1 hb1 => lev_bad v zs keep w1 (HR.out.below (w' := w1) hb1 (Nat.le_refl _)) hok)
    have HH := Lib.hid (fun w1 hb1 => hv_bad v zs keep w1 (HR.out.below (w' := w1) hb1 (Nat.le_refl _)) hok)
    unfold fr at HL
    subst he1
    clear h hn hop HOP hok
    go_enter Try.func4, Try.ntmps4
    go_wp2_with fail
    refine (alive_any w).mono ?_
    rintro e w1 ⟨rfl, hb1⟩
    have HB1 := Lib.hid hb1
    have HC := Lib.hid (HL.out w1 hb1)
    clear hb1
    go_wp2_with fail
    refine HC.out.mono ?_
    rintro e w2 ⟨rfl, hb2⟩
    obtain ⟨w3, hw3⟩ : ∃ X, w2.alloc (.cells #[.int .i64 0, .int .i64 0] 25) = X := ⟨_, rfl⟩
    have hb3 : Below w.heap.size w w3 := by rw [← hw3]; exact (HB1.out.trans (hb2.mono HB1.out.size)).alloc (by have := HB1.out.size; have := hb2.size; omega) _
    have HB3 := Lib.hid hb3
    have HC := Lib.hid (HH.out w3 hb3)
    have HW3 := Lib.hid hw3
    clear hb3 hb2 hw3
    go_wp2_with fail
    rw [HW3.out]
    refine HC.out.mono ?_
    rintro e w4 ⟨rfl, hb4⟩
    have HB4 := Lib.hid (HB3.out.trans (hb4.mono HB3.out.size))
    clear hb4 HC HH HL
    go_wp2_with fail
    go_ret
    exact ⟨rfl, HB4.out⟩
theorem walk (a0 : Option Addr) (len0 cap0 : Nat) (z0 : List Int) (keep : Int) (w : World) (w0 : IsRow .i64 w a0 len0 cap0 z0) (w1 : (Lit.int .i64 keep).wf = true) :
    Calls Try.prog 4 #[.slice a0 len0 cap0, .int .i64 keep] w fun e w' => e = .returned (.bool true) ∧ Below w.heap.size w w' := by
  obtain ⟨h1, -⟩ := w0.rd
  exact run _ _ keep w h1
end Go.Proofs.Ytkmjjckpolopgaa.dropLikely
