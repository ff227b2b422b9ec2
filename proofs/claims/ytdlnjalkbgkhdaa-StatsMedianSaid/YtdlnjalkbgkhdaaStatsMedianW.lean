/- The walk of StatsMedian. No condition beyond rows within the reach. -/
import Derived.Test.YtdlnjalkbgkhdaaAl
import Derived.Test.YtdlnjalkbgkhdaaMidL
set_option linter.unusedSimpArgs false
set_option linter.unusedVariables false
namespace Go.Proofs.Ytdlnjalkbgkhdaa.statsMedian
open Go.RowKit Go.Proofs.Ytdlnjalkbgkhdaa
theorem max2_run (a b : Int) (w : World) : (Builtin.max_ #[3, 3] 3 #[.int .i64 a, .int .i64 b]).run Try.prog w = .ok (.int .i64 (max a b)) w := by
  have h2 : ∀ (x y : Int) (w : World), (Builtin.max2 (.int .i64 x) (.int .i64 y)).run Try.prog w = .ok (.int .i64 (max x y)) w := fun x y w => by
    have e : (if x < y then y else x) = max x y := by split <;> omega
    simp [Builtin.max2, e]
  simp [Builtin.max_, List.foldlM, h2, Sem.run_bind, Result.andThen]
set_option maxHeartbeats 1600000 in
theorem run (v : Value) (zs : List Int) (x : Int) (w : World) (h : Rd w v zs) :
    Calls Try.prog 4 #[v, .int .i64 x] w fun e w' => e = .returned (.bool true) ∧ Below w.heap.size w w' := by
  have HR := Lib.hid h
  obtain ⟨a, cap, he1, -, -, hop⟩ := h.open
  have HV := Lib.hid he1
  obtain ⟨n, hn⟩ : ∃ n, zs.length = n := ⟨_, rfl⟩
  rw [hn] at HV hop
  have HN := Lib.hid hn
  have HOP := Lib.hid hop
  by_cases hk : OkL zs ∧ 0 < zs.length
  · obtain ⟨hx, h0⟩ := hk
    have HM := Lib.hid (fun w1 hb1 => med_any v zs w1 (HR.out.below (w' := w1) hb1 (Nat.le_refl _)) hx h0)
    have hmb := med_bd hx.2 h0
    have HLE := Lib.hid (nr_med h0 x)
    have HS := Lib.hid hx.2
    have h4 : n ≤ 400 := by have := hx.1; omega
    generalize med zs = m at *
    have e1 := HV.out
    subst e1
    clear hx h0 hn he1 hop h HV
    by_cases hbig : -1099511627776 ≤ x ∧ x ≤ 1099511627776
    · have t1 : decide ((1099511627776 : Int) < x) = false := decide_eq_false (by omega)
      have t2 : decide (x < -1099511627776) = false := decide_eq_false (by omega)
      go_enter Try.func4, Try.ntmps4
      go_wp2_with fail
      refine (alive_any w).mono ?_
      rintro e w1 ⟨rfl, hb1⟩
      have HB1 := Lib.hid hb1
      have HC := Lib.hid (HM.out w1 hb1)
      clear hb1
      go_wp2_with fail
      refine HC.out.mono ?_
      rintro e w2 ⟨rfl, hb2⟩
      have hb2' := HB1.out.trans (hb2.mono HB1.out.size)
      have HB2 := Lib.hid hb2'
      clear hb2 hb2' HC HM
      go_wp2_with fail
      clear t1 t2
      go_loopw [40, 7, 8] (fun iv nv fv wr => ∃ (k : Nat) (N F : Int), k ≤ n ∧ iv = .int .i64 k ∧ nv = .int .i64 N ∧ fv = .int .i64 F ∧ Hid (N = nr m (zs.take k) ∧ F = nr (2 * x) (zs.take k)) ∧ Hid (∃ q, wr = w2.drewN q)) (fun iv _ _ _ => n - (intOf iv).toNat)
      case atStart => exact ⟨0, 0, 0, Nat.zero_le _, rfl, rfl, rfl, ⟨rfl, rfl⟩, ⟨0, rfl⟩⟩
      case round =>
        obtain ⟨k, N, F, hk, rfl, rfl, rfl, HX, HWR⟩ := hrel
        obtain ⟨q, hq⟩ := HWR.out
        subst hq
        by_cases hkn : k < n
        · obtain ⟨b, off, rfl, hb, hc⟩ := HOP.out k hkn
          have c1 : w2.cell? ⟨b, off + k, none⟩ = some (.int .i64 (zs.getD k 0)) := (World.cell?_of_block (HB2.out.block b hb)).trans (hc k hkn)
          have hT1 := nr_take m zs k (by rw [HN.out]; exact hkn)
          have hT2 := nr_take (2 * x) zs k (by rw [HN.out]; exact hkn)
          have hb1 := nr_bd m (by omega) (HS.out.take k)
          have hb2 := nr_bd (2 * x) (by omega) (HS.out.take k)
          have hy := HS.out _ (getD_memI zs k (by rw [HN.out]; exact hkn))
          rw [List.length_take, HN.out, Nat.min_eq_left hk] at hb1 hb2
          rw [← HX.out.1] at hT1 hb1
          rw [← HX.out.2] at hT2 hb2
          clear hc
          generalize zs.getD k 0 = y at *
          obtain ⟨d1, hd1⟩ : ∃ d, ab (m - 2 * y) = d := ⟨_, rfl⟩
          obtain ⟨d2, hd2⟩ : ∃ d, max (x - y) (y - x) = d := ⟨_, rfl⟩
          have e1 : max (m - 2 * y) (2 * y - m) = d1 := by rw [← hd1]; unfold ab; omega
          have e2 : ab (2 * x - 2 * y) = 2 * d2 := by rw [← hd2]; unfold ab; omega
          rw [hd1] at hT1
          rw [e2] at hT2
          obtain ⟨N', hN'⟩ : ∃ N', N + d1 = N' := ⟨_, rfl⟩
          obtain ⟨F', hF'⟩ : ∃ N', F + 2 * d2 = N' := ⟨_, rfl⟩
          have hd1b : 0 ≤ d1 ∧ d1 ≤ 4398048608256 := by rw [← hd1]; unfold ab; omega
          have hd2b : 0 ≤ d2 ∧ d2 ≤ 1099512676352 := by rw [← hd2]; omega
          obtain ⟨p1, hp1⟩ : ∃ p, m - 2 * y = p := ⟨_, rfl⟩
          obtain ⟨p2, hp2⟩ : ∃ p, 2 * y - m = p := ⟨_, rfl⟩
          obtain ⟨p3, hp3⟩ : ∃ p, x - y = p := ⟨_, rfl⟩
          obtain ⟨p4, hp4⟩ : ∃ p, y - x = p := ⟨_, rfl⟩
          obtain ⟨p5, hp5⟩ : ∃ p, 2 * y = p := ⟨_, rfl⟩
          obtain ⟨p6, hp6⟩ : ∃ p, 2 * d2 = p := ⟨_, rfl⟩
          have y0 : IntKind.i64.wrap (2 * y) = p5 := by rw [IntKind.wrap_i64]; omega
          have y1 : IntKind.i64.wrap (m - p5) = p1 := by rw [IntKind.wrap_i64]; omega
          have y2 : IntKind.i64.wrap (p5 - m) = p2 := by rw [IntKind.wrap_i64]; omega
          have y3 : IntKind.i64.wrap (x - y) = p3 := by rw [IntKind.wrap_i64]; omega
          have y4 : IntKind.i64.wrap (y - x) = p4 := by rw [IntKind.wrap_i64]; omega
          have y5 : IntKind.i64.wrap (N + d1) = N' := by rw [IntKind.wrap_i64]; omega
          have y6 : IntKind.i64.wrap (2 * d2) = p6 := by rw [IntKind.wrap_i64]; omega
          have y7 : IntKind.i64.wrap (F + p6) = F' := by rw [IntKind.wrap_i64]; omega
          have emax1 : ∀ w : World, (Builtin.max_ #[3, 3] 3 #[.int .i64 p1, .int .i64 p2]).run Try.prog w = .ok (.int .i64 d1) w := fun w => by rw [max2_run, ← hp1, ← hp2, e1]
          have emax2 : ∀ w : World, (Builtin.max_ #[3, 3] 3 #[.int .i64 p3, .int .i64 p4]).run Try.prog w = .ok (.int .i64 d2) w := fun w => by rw [max2_run, ← hp3, ← hp4, hd2]
          have HXn : Hid (N' = nr m (zs.take (k + 1)) ∧ F' = nr (2 * x) (zs.take (k + 1))) := ⟨by rw [hT1, hN'], by rw [hT2, hF']⟩
          have q1 : (0 ≤ (k : Int) ∧ (k : Int) < (n : Int)) = True := eq_true ⟨by omega, by omega⟩
          clear hT1 hT2 hb1 hb2 hy hd1 hd2 e1 e2 hN' hF' hd1b hd2b hp1 hp2 hp3 hp4 hp5 hp6 hb
          go_wp2_with fail
          go_roundw
          case rel => exact ⟨k + 1, _, _, by omega, by go_num, rfl, rfl, HXn.out, ⟨_, rfl⟩⟩
          case measure => simp [intOf]; omega
        · obtain rfl : k = n := by omega
          obtain ⟨e1, e2⟩ := HX.out
          rw [List.take_of_length_le (by rw [HN.out]; exact Nat.le_refl _)] at e1 e2
          have t3 : decide (N ≤ F) = true := decide_eq_true (by rw [e1, e2]; exact HLE.out)
          clear e1 e2
          go_wp2_with fail
          go_ret
          exact ⟨rfl, HB2.out.drewN _⟩
    · have HT : Hid (decide ((1099511627776 : Int) < x) = true ∨ (decide ((1099511627776 : Int) < x) = false ∧ decide (x < -1099511627776) = true)) := by
        show _ ∨ _
        by_cases h1 : (1099511627776 : Int) < x
        · exact .inl (decide_eq_true h1)
        · exact .inr ⟨decide_eq_false h1, decide_eq_true (by omega)⟩
      clear hbig
      rcases HT.out with t1 | ⟨t1, t2⟩
      all_goals
        go_enter Try.func4, Try.ntmps4
        go_wp2_with fail
        refine (alive_any w).mono ?_
        rintro e w1 ⟨rfl, hb1⟩
        have HB1 := Lib.hid hb1
        have HC := Lib.hid (HM.out w1 hb1)
        clear hb1
        go_wp2_with fail
        refine HC.out.mono ?_
        rintro e w2 ⟨rfl, hb2⟩
        have hb2' := HB1.out.trans (hb2.mono HB1.out.size)
        have HB2 := Lib.hid hb2'
        clear hb2 hb2' HC HM
        go_wp2_with fail
        go_ret
        exact ⟨rfl, HB2.out⟩
  · have HM := Lib.hid (fun w1 hb1 => med_bad v zs w1 (HR.out.below (w' := w1) hb1 (Nat.le_refl _)) (by
      by_cases h1 : OkL zs
      · exact .inr (List.length_eq_zero_iff.1 (Nat.eq_zero_of_not_pos fun h => hk ⟨h1, h⟩))
      · exact .inl h1))
    have e1 := HV.out
    subst e1
    clear hn he1 hop h HV hk HOP
    go_enter Try.func4, Try.ntmps4
    go_wp2_with fail
    refine (alive_any w).mono ?_
    rintro e w1 ⟨rfl, hb1⟩
    have HB1 := Lib.hid hb1
    have HC := Lib.hid (HM.out w1 hb1)
    clear hb1
    go_wp2_with fail
    refine HC.out.mono ?_
    rintro e w2 ⟨⟨er, her, rfl⟩, hb2⟩
    have hb2' := HB1.out.trans (hb2.mono HB1.out.size)
    have HB2 := Lib.hid hb2'
    have t1 : ((er : Int) != 0) = true := by rw [bne_iff_ne]; omega
    clear hb2 hb2' HC HM
    go_wp2_with fail
    go_ret
    exact ⟨rfl, HB2.out⟩
theorem walk (a0 : Option Addr) (len0 cap0 : Nat) (z0 : List Int) (x : Int) (w : World) (w0 : IsRow .i64 w a0 len0 cap0 z0) (w1 : (Lit.int .i64 x).wf = true) :
    Calls Try.prog 4 #[.slice a0 len0 cap0, .int .i64 x] w fun e w' => e = .returned (.bool true) ∧ Below w.heap.size w w' := by
  obtain ⟨h1, -⟩ := w0.rd
  exact run _ _ x w h1
end Go.Proofs.Ytdlnjalkbgkhdaa.statsMedian
