/- The walk of StatsParts. No condition beyond rows within the reach. -/
import Derived.Test.YtdlnjalkbgkhdaaAl
import Derived.Test.YtdlnjalkbgkhdaaConcI
set_option linter.unusedSimpArgs false
set_option linter.unusedVariables false
namespace Go.Proofs.Ytdlnjalkbgkhdaa.statsParts
open Go.RowKit Go.Proofs.Ytdlnjalkbgkhdaa
theorem max2_run (a b : Int) (w : World) : (Builtin.max_ #[3, 3] 3 #[.int .i64 a, .int .i64 b]).run Try.prog w = .ok (.int .i64 (max a b)) w := by
  have h2 : ∀ (x y : Int) (w : World), (Builtin.max2 (.int .i64 x) (.int .i64 y)).run Try.prog w = .ok (.int .i64 (max x y)) w := fun x y w => by
    have e : (if x < y then y else x) = max x y := by split <;> omega
    simp [Builtin.max2, e]
  simp [Builtin.max_, List.foldlM, h2, Sem.run_bind, Result.andThen]
theorem max4_run (a b c d : Int) (w : World) : (Builtin.max_ #[3, 3, 3, 3] 3 #[.int .i64 a, .int .i64 b, .int .i64 c, .int .i64 d]).run Try.prog w = .ok (.int .i64 (max (max (max a b) c) d)) w := by
  have h2 : ∀ (x y : Int) (w : World), (Builtin.max2 (.int .i64 x) (.int .i64 y)).run Try.prog w = .ok (.int .i64 (max x y)) w := fun x y w => by
    have e : (if x < y then y else x) = max x y := by split <;> omega
    simp [Builtin.max2, e]
  simp [Builtin.max_, List.foldlM, h2, Sem.run_bind, Result.andThen]
theorem of_tot (v : Value) (zs : List Int) (w : World) (h : Rd w v zs) :
    Calls Try.prog 10 #[v] w fun e w' => (∃ n s q er : Int, (OkL zs → er = 0 ∧ n = zs.length ∧ s = sm zs ∧ q = sq zs) ∧ (¬ OkL zs → er = 2) ∧ e = .returned (.tuple #[.agg #[.int .i64 n, .int .i64 s, .int .i64 q], .int .i64 er])) ∧ Below w.heap.size w w' := by
  by_cases hok : OkL zs
  · refine (of_good v zs w h hok).mono ?_
    rintro e w' ⟨rfl, hb⟩
    exact ⟨⟨_, _, _, 0, fun _ => ⟨rfl, rfl, rfl, rfl⟩, fun g => absurd hok g, rfl⟩, hb⟩
  · refine (of_bad v zs w h hok).mono ?_
    rintro e w' ⟨rfl, hb⟩
    exact ⟨⟨0, 0, 0, 2, fun g => absurd g hok, fun _ => rfl, rfl⟩, hb⟩
/-- Apart and joined: Steiner. -/
theorem steiner (n m s t q r : Int) : n * m * ((n + m) * (q + r) - (s + t) * (s + t)) = (n + m) * (m * (n * q - s * s) + n * (m * r - t * t)) + (s * m - t * n) * (s * m - t * n) := by grind
set_option maxHeartbeats 3200000 in
theorem run (a a' : Option Addr) (n m cap cap' : Nat) (x y : List Int) (w : World) (h : Rd w (.slice a n cap) x) (h' : Rd w (.slice a' m cap') y) (hz : a = none → n = 0 ∧ cap = 0) (hz' : a' = none → m = 0 ∧ cap' = 0)
    (hr : x.length * 8 ≤ 140737488351232) (hr' : y.length * 8 ≤ 140737488351232) :
    Calls Try.prog 7 #[.slice a n cap, .slice a' m cap'] w fun e w' => e = .returned (.bool true) ∧ Below w.heap.size w w' := by
  have HR := Lib.hid h
  have HR' := Lib.hid h'
  have hn : x.length = n := by
    obtain ⟨_, _, he, -⟩ := h.open
    injection he with _ h5 _
    exact h5.symm
  have hm : y.length = m := by
    obtain ⟨_, _, he, -⟩ := h'.open
    injection he with _ h5 _
    exact h5.symm
  have HN := Lib.hid hn
  have HM := Lib.hid hm
  have HO := Lib.hid (fun w1 hb1 => of_tot _ x w1 (HR.out.below (w' := w1) hb1 (Nat.le_refl _)))
  have HO' := Lib.hid (fun w1 hb1 => of_tot _ y w1 (HR'.out.below (w' := w1) hb1 (Nat.le_refl _)))
  have HCO : Hid (∀ w5 : World, Below w.heap.size w w5 → Calls Try.prog 18 #[.slice (some ⟨w5.heap.size, 0, none⟩) 2 2] (w5.alloc (.cells #[.slice a' m cap', .slice a n cap] 22)) fun e w' => Below w5.heap.size w5 w' ∧ ∃ v, e = .returned v ∧ Rd w' v (y ++ x)) := fun w5 hb5 => by
    have hb6 : Below w5.heap.size w5 (w5.alloc (.cells #[.slice a' m cap', .slice a n cap] 22)) := (Below.refl _ _).alloc (Nat.le_refl _) _
    have hbb := hb5.trans (hb6.mono hb5.size)
    refine (concati_any w5.heap.size m cap' n cap a' a y x _ (HR'.out.below hbb (Nat.le_refl _)) (HR.out.below hbb (Nat.le_refl _)) hz' hz ?_ ?_ (by simp) (by omega)).mono ?_
    · rw [cell_of_row _ _ _ _ 22 (0, 0) (heap_alloc_new w5 _)]; rfl
    · rw [cell_of_row _ _ _ _ 22 (0, 0) (heap_alloc_new w5 _)]; rfl
    · rintro e w' ⟨hb, v, rfl, hv⟩
      exact ⟨hb6.trans (hb.mono (by simp)), v, rfl, hv⟩
  clear h h' hz hz' hr hr' hn hm
  go_enter Try.func7, Try.ntmps7
  go_wp2_with fail
  refine (alive_any w).mono ?_
  rintro e w1 ⟨rfl, hb1⟩
  have HB1 := Lib.hid hb1
  have HC := Lib.hid (HO.out w1 hb1)
  clear hb1
  go_wp2_with fail
  refine HC.out.mono ?_
  rintro e w2 ⟨⟨n1, s1, q1, er1, hg1, hn1, rfl⟩, hb2⟩
  have HG1 := Lib.hid hg1
  have HN1 := Lib.hid hn1
  obtain ⟨w3, hw3⟩ : ∃ X, w2.alloc (.cells #[.int .i64 n1, .int .i64 s1, .int .i64 q1] 28) = X := ⟨_, rfl⟩
  have hb3 : Below w.heap.size w w3 := by rw [← hw3]; exact (HB1.out.trans (hb2.mono HB1.out.size)).alloc (by have := HB1.out.size; have := hb2.size; omega) _
  have HB3 := Lib.hid hb3
  have HK1 := Lib.hid (kept3 hw3)
  have HC := Lib.hid (HO'.out w3 hb3)
  have HW3 := Lib.hid hw3
  clear hg1 hn1 hb2 hb3 hw3
  go_wp2_with fail
  rw [HW3.out]
  obtain ⟨B1, hB1⟩ : ∃ B, w2.heap.size = B := ⟨_, rfl⟩
  rw [hB1] at HK1 ⊢
  clear HW3 hB1
  refine HC.out.mono ?_
  rintro e w4 ⟨⟨n2, s2, q2, er2, hg2, hn2, rfl⟩, hb4⟩
  have HG2 := Lib.hid hg2
  have HN2 := Lib.hid hn2
  obtain ⟨w5, hw5⟩ : ∃ X, w4.alloc (.cells #[.int .i64 n2, .int .i64 s2, .int .i64 q2] 28) = X := ⟨_, rfl⟩
  have hb5 : Below w3.heap.size w3 w5 := by rw [← hw5]; exact hb4.alloc hb4.size _
  have HX5 := Lib.hid hb5
  have HB5 := Lib.hid (HB3.out.trans (hb5.mono HB3.out.size))
  have HK2 := Lib.hid (kept3 hw5)
  have HC := Lib.hid (HCO.out w5 HB5.out)
  have HSZ : Hid (w4.heap.size + 1 = w5.heap.size) := by show _ = _; rw [← hw5]; simp
  have HW5 := Lib.hid hw5
  rw [← HSZ.out] at HC
  clear hg2 hn2 hb4 hb5 hw5
  go_wp2_with fail
  rw [HW5.out]
  refine HC.out.mono ?_
  rintro e w6 ⟨hb6, v6, rfl, hr6⟩
  rw [HSZ.out] at hb6
  obtain ⟨B2, hB2⟩ : ∃ B, w4.heap.size = B := ⟨_, rfl⟩
  rw [hB2] at HK2 ⊢
  have HX6 := Lib.hid hb6
  have HB6 := Lib.hid (HB5.out.trans (hb6.mono HB5.out.size))
  have HC := Lib.hid (of_tot v6 (y ++ x) w6 hr6)
  clear hb6 hr6 HW5 hB2 HSZ HCO
  go_wp2_with fail
  refine HC.out.mono ?_
  rintro e w8 ⟨⟨n3, s3, q3, er3, hg3, hn3, rfl⟩, hb8⟩
  have HG3 := Lib.hid hg3
  have HN3 := Lib.hid hn3
  obtain ⟨w9, hw9⟩ : ∃ X, w8.alloc (.cells #[.int .i64 n3, .int .i64 s3, .int .i64 q3] 28) = X := ⟨_, rfl⟩
  have hb9 : Below w6.heap.size w6 w9 := by rw [← hw9]; exact hb8.alloc hb8.size _
  have HB9 := Lib.hid (HB6.out.trans (hb9.mono HB6.out.size))
  have hx59 := HX6.out.trans (hb9.mono HX6.out.size)
  have HX59 := Lib.hid hx59
  have HX39 := Lib.hid (HX5.out.trans (hx59.mono HX5.out.size))
  have HK3 := Lib.hid (kept3 hw9)
  have HW9 := Lib.hid hw9
  have HB9' : Hid (Below w.heap.size w (w8.alloc (.cells #[.int .i64 n3, .int .i64 s3, .int .i64 q3] 28))) := by show Below _ _ _; rw [hw9]; exact HB9.out
  obtain ⟨c0, c1, c2⟩ := HK1.out w9 HX39.out
  obtain ⟨c3, c4, c5⟩ := HK2.out w9 HX59.out
  rw [← hw9] at c0 c1 c2 c3 c4 c5
  clear hg3 hn3 hb8 hb9 hx59 hw9 HC HO HO' HX6 HX5
  by_cases hok1 : OkL x
  · obtain ⟨rfl, rfl, rfl, rfl⟩ := HG1.out hok1
    by_cases hok2 : OkL y
    · obtain ⟨rfl, rfl, rfl, rfl⟩ := HG2.out hok2
      by_cases hok3 : OkL (y ++ x)
      · obtain ⟨rfl, e1, e2, e3⟩ := HG3.out hok3
        rw [sm_app] at e2
        rw [sq_app] at e3
        rw [List.length_append] at e1
        have hr1 := right_of hok1.2 (by have := hok1.1; omega)
        have hr2 := right_of hok2.2 (by have := hok2.1; omega)
        have hsz := hok3.1
        rw [List.length_append] at hsz
        have hr3 : RightM ((x.length : Int) + y.length) (sm x + sm y) (sq x + sq y) := by
          have := right_of hok3.2 (by have := hok3.1; omega)
          rw [sm_app, sq_app, List.length_append] at this
          rwa [show ((y.length + x.length : Nat) : Int) = (x.length : Int) + y.length by omega, Int.add_comm (sm y), Int.add_comm (sq y)] at this
        have HJ := Lib.hid (fun w1 => join_any _ _ _ _ _ _ w1 hr1 hr2 (by omega))
        have HS1 := Lib.hid (fun w1 => spread_any _ _ _ w1 hr1)
        have HS2 := Lib.hid (fun w1 => spread_any _ _ _ w1 hr2)
        have HS3 := Lib.hid (fun w1 => spread_any _ _ _ w1 hr3)
        have hb1 := hok1.2.bd
        have hb2 := hok2.2.bd
        have hv1 := hr1.cs
        have hv2 := hr2.cs
        have hv3 := hr3.cs
        have he0 : x.length = 0 → sm x = 0 ∧ sq x = 0 := fun h => by rw [List.length_eq_zero_iff.1 h]; exact ⟨rfl, rfl⟩
        have he0' : y.length = 0 → sm y = 0 ∧ sq y = 0 := fun h => by rw [List.length_eq_zero_iff.1 h]; exact ⟨rfl, rfl⟩
        rw [HN.out] at HJ HS1 HS3 hb1 hv1 hv3 he0 hsz e1 HK1 c0
        rw [HM.out] at HJ HS2 HS3 hb2 hv2 hv3 he0' hsz e1 HK2 c3
        unfold mv at HJ HS1 HS2 HS3
        clear hr1 hr2 hr3 hok1 hok2 hok3 HG1 HG2 HG3 HN1 HN2 HN3
        have e1' : (n : Int) + (m : Int) = n3 := by rw [e1]; omega
        have e2' : sm x + sm y = s3 := by rw [e2]; omega
        have e3' : sq x + sq y = q3 := by rw [e3]; omega
        rw [e1', e2', e3'] at HJ HS3 hv3
        clear e1 e2 e3
        generalize sm x = s1 at *
        generalize sm y = s2 at *
        generalize sq x = q1 at *
        generalize sq y = q2 at *
        have HST : Hid ((n : Int) * m * (n3 * q3 - s3 * s3) = ((n : Int) + m) * (m * (n * q1 - s1 * s1) + n * (m * q2 - s2 * s2)) + (s1 * m - s2 * n) * (s1 * m - s2 * n)) := by
          show _ = _
          rw [← e1', ← e2', ← e3']; exact steiner _ _ _ _ _ _
        have HE1 : Hid (n = 0 → n3 * q3 - s3 * s3 = (n * q1 - s1 * s1) + (m * q2 - s2 * s2)) := fun h0 => by
          obtain ⟨g1, g2⟩ := he0 h0
          rw [← e1', ← e2', ← e3', g1, g2, h0]; simp
        have HE2 : Hid (m = 0 → n3 * q3 - s3 * s3 = (n * q1 - s1 * s1) + (m * q2 - s2 * s2)) := fun h0 => by
          obtain ⟨g1, g2⟩ := he0' h0
          rw [← e1', ← e2', ← e3', g1, g2, h0]; simp
        have HBQ : Hid (n ≤ 30 → m ≤ 30 → (0 ≤ n * q1 - s1 * s1 ∧ n * q1 - s1 * s1 ≤ 989560464998400) ∧ (0 ≤ m * q2 - s2 * s2 ∧ m * q2 - s2 * s2 ≤ 989560464998400) ∧ (0 ≤ n3 * q3 - s3 * s3 ∧ n3 * q3 - s3 * s3 ≤ 3958241859993600)) := fun h1 h2 => by
          have f : ∀ (a : Nat) (q s : Int) (A B : Int), (a : Int) ≤ A → 0 ≤ q → q ≤ B → s * s ≤ a * q → 0 ≤ A → 0 ≤ a * q - s * s ∧ a * q - s * s ≤ A * B := fun a q s A B h1 h2 h3 h4 h5 => by
            have g1 : (a : Int) * q ≤ A * B := Int.mul_le_mul h1 h3 h2 h5
            have g2 : 0 ≤ s * s := by
              rcases Int.le_total 0 s with h | h
              · exact Int.mul_nonneg h h
              · exact Int.mul_nonneg_of_nonpos_of_nonpos h h
            omega
          refine ⟨f n q1 s1 30 32985348833280 (by omega) (by omega) (by omega) hv1 (by omega), f m q2 s2 30 32985348833280 (by omega) (by omega) (by omega) hv2 (by omega), ?_⟩
          have := f (n + m) q3 s3 60 65970697666560 (by omega) (by omega) (by omega) (by rw [show ((n + m : Nat) : Int) = n3 by omega]; exact hv3) (by omega)
          rw [show ((n + m : Nat) : Int) = n3 by omega] at this
          exact this
        have HSB : Hid (n ≤ 30 → m ≤ 30 → (-31457280 ≤ s1 ∧ s1 ≤ 31457280) ∧ (-31457280 ≤ s2 ∧ s2 ≤ 31457280)) := fun h1 h2 => by omega
        obtain ⟨S1, hS1⟩ : ∃ z, (n : Int) * q1 - s1 * s1 = z := ⟨_, rfl⟩
        obtain ⟨S2, hS2⟩ : ∃ z, (m : Int) * q2 - s2 * s2 = z := ⟨_, rfl⟩
        obtain ⟨S3, hS3⟩ : ∃ z, n3 * q3 - s3 * s3 = z := ⟨_, rfl⟩
        rw [hS1] at HS1
        rw [hS2] at HS2
        rw [hS3] at HS3
        rw [hS1, hS2, hS3] at HST HE1 HE2 HBQ
        have HLE : Hid (n + m ≤ 400) := by show _ ≤ _; omega
        clear e1' e2' e3' hb1 hb2 hv1 hv2 hv3 he0 he0' hsz hS1 hS2 hS3
        go_wp2_with fail
        rw [HW9.out]
        refine (HJ.out w9).mono ?_
        rintro e w10 ⟨rfl, hb10⟩
        obtain ⟨B3, hB3⟩ : ∃ B, w8.heap.size = B := ⟨_, rfl⟩
        rw [hB3] at HK3 ⊢
        obtain ⟨w11, hw11⟩ : ∃ X, w10.alloc (.cells #[.int .i64 n3, .int .i64 s3, .int .i64 q3] 28) = X := ⟨_, rfl⟩
        have hb11 : Below w9.heap.size w9 w11 := by rw [← hw11]; exact hb10.alloc hb10.size _
        have HX911 := Lib.hid hb11
        have HB11 := Lib.hid (HB9.out.trans (hb11.mono HB9.out.size))
        have HK4 := Lib.hid (kept3 hw11)
        have HC := Lib.hid (HS1.out w11)
        have HX5_11 := Lib.hid (HX59.out.trans (hb11.mono HX59.out.size))
        have HX3_11 := Lib.hid (HX39.out.trans (hb11.mono HX39.out.size))
        clear c0 c1 c2 c3 c4 c5
        obtain ⟨c0, c1, c2⟩ := HK1.out w11 HX3_11.out
        rw [← hw11] at c0 c1 c2
        have HW11 := Lib.hid hw11
        clear hb10 hb11 hw11 HJ HW9 hB3 HB9' HX59 HX39
        go_wp2_with fail
        rw [HW11.out]
        refine HC.out.mono ?_
        rintro e w12 ⟨rfl, hb12⟩
        obtain ⟨B4, hB4⟩ : ∃ B, w10.heap.size = B := ⟨_, rfl⟩
        rw [hB4] at HK4 ⊢
        clear c0 c1 c2
        have HX1112 := Lib.hid hb12
        obtain ⟨c3, c4, c5⟩ := HK2.out w12 (HX5_11.out.trans (hb12.mono HX5_11.out.size))
        have HC := Lib.hid (HS2.out w12)
        clear hb12 HW11 hB4
        go_wp2_with fail
        refine HC.out.mono ?_
        rintro e w13 ⟨rfl, hb13⟩
        clear c3 c4 c5
        have HX1113 := Lib.hid (HX1112.out.trans (hb13.mono HX1112.out.size))
        obtain ⟨c0, c1, c2⟩ := HK4.out w13 HX1113.out
        have HC := Lib.hid (HS3.out w13)
        clear hb13
        go_wp2_with fail
        refine HC.out.mono ?_
        rintro e w14 ⟨rfl, hb14⟩
        clear c0 c1 c2
        have hx1114 := HX1113.out.trans (hb14.mono HX1113.out.size)
        have HB14 := Lib.hid (HB11.out.trans (hx1114.mono HB11.out.size))
        obtain ⟨c0, c1, c2⟩ := HK4.out w14 hx1114
        obtain ⟨c3, c4, c5⟩ := HK3.out w14 (HX911.out.trans (hx1114.mono HX911.out.size))
        obtain ⟨c6, c7, c8⟩ := HK1.out w14 (HX3_11.out.trans (hx1114.mono HX3_11.out.size))
        obtain ⟨c9, c10, c11⟩ := HK2.out w14 (HX5_11.out.trans (hx1114.mono HX5_11.out.size))
        clear hb14 hx1114 HC HS1 HS2 HS3 HK1 HK2 HK3 HK4 HX911 HX1112 HX1113 HX3_11 HX5_11 HB11 HB9
        have emax := fun (w : World) => max2_run (n : Int) (m : Int) w
        obtain ⟨mx, hmx⟩ : ∃ z, max (n : Int) (m : Int) = z := ⟨_, rfl⟩
        rw [hmx] at emax
        have t0 : (n3 != n3) = false := by simp
        by_cases g1 : 30 < mx
        · have t1 : decide (30 < mx) = true := decide_eq_true g1
          clear hmx g1
          go_wp2_with fail
          go_ret
          exact ⟨rfl, HB14.out⟩
        have t1 : decide (30 < mx) = false := decide_eq_false g1
        have h30 : n ≤ 30 := by omega
        have h30' : m ≤ 30 := by omega
        obtain ⟨z1, z2, z3⟩ := HBQ.out h30 h30'
        obtain ⟨z4, z5⟩ := HSB.out h30 h30'
        have fm : ∀ (s : Int) (k : Nat), -31457280 ≤ s → s ≤ 31457280 → k ≤ 30 → -943718400 ≤ s * k ∧ s * k ≤ 943718400 := fun s k h1 h2 h3 => by
          have g1 : s * k ≤ 31457280 * k := Int.mul_le_mul_of_nonneg_right h2 (by omega)
          have g2 : -31457280 * (k : Int) ≤ s * k := Int.mul_le_mul_of_nonneg_right h1 (by omega)
          omega
        have f1 := fm s1 m z4.1 z4.2 h30'
        have f2 := fm s2 n z5.1 z5.2 h30
        obtain ⟨sm', hsm'⟩ : ∃ z, s1 * (m : Int) = z := ⟨_, rfl⟩
        obtain ⟨sn', hsn'⟩ : ∃ z, s2 * (n : Int) = z := ⟨_, rfl⟩
        obtain ⟨d, hd⟩ : ∃ z, sm' - sn' = z := ⟨_, rfl⟩
        rw [hsm'] at f1
        rw [hsn'] at f2
        rw [hsm', hsn', hd] at HST
        have y1 : IntKind.i64.wrap (s1 * (m : Int)) = sm' := by rw [IntKind.wrap_i64, hsm']; omega
        have y2 : IntKind.i64.wrap (s2 * (n : Int)) = sn' := by rw [IntKind.wrap_i64, hsn']; omega
        have y3 : IntKind.i64.wrap (sm' - sn') = d := by rw [IntKind.wrap_i64]; omega
        have y4 : IntKind.i64.wrap (S1 + S2) = S1 + S2 := by rw [IntKind.wrap_i64]; omega
        by_cases g2 : n = 0
        · have t2 : ((n : Int) == 0) = true := by rw [beq_iff_eq]; omega
          have t3 : (S3 == S1 + S2) = true := by rw [beq_iff_eq]; exact HE1.out g2
          clear hmx g1 z1 z2 z3 z4 z5 fm f1 f2 hsm' hsn' hd g2 h30 h30'
          go_wp2_with fail
          go_ret
          exact ⟨rfl, HB14.out⟩
        have t2 : ((n : Int) == 0) = false := by rw [beq_eq_false_iff_ne]; omega
        by_cases g3 : m = 0
        · have t2' : ((m : Int) == 0) = true := by rw [beq_iff_eq]; omega
          have t3 : (S3 == S1 + S2) = true := by rw [beq_iff_eq]; exact HE2.out g3
          clear hmx g1 z1 z2 z3 z4 z5 fm f1 f2 hsm' hsn' hd g2 g3 h30 h30'
          go_wp2_with fail
          go_ret
          exact ⟨rfl, HB14.out⟩
        have t2' : ((m : Int) == 0) = false := by rw [beq_eq_false_iff_ne]; omega
        have y5 : IntKind.i64.wrap (-s1) = -s1 := by rw [IntKind.wrap_i64]; omega
        have y6 : IntKind.i64.wrap (-s2) = -s2 := by rw [IntKind.wrap_i64]; omega
        have emax4 := fun (w : World) => max4_run s1 (-s1) s2 (-s2) w
        obtain ⟨mx4, hmx4⟩ : ∃ z, max (max (max s1 (-s1)) s2) (-s2) = z := ⟨_, rfl⟩
        rw [hmx4] at emax4
        by_cases g4 : 1048576 < mx4
        · have t3 : decide (1048576 < mx4) = true := decide_eq_true g4
          clear hmx g1 z1 z2 z3 z4 z5 fm f1 f2 hsm' hsn' hd g2 g3 h30 h30' hmx4 g4
          go_wp2_with fail
          try go_region
          go_wp2_with fail
          go_ret
          exact ⟨rfl, HB14.out⟩
        have t3 : decide (1048576 < mx4) = false := decide_eq_false g4
        have hs1 : -1048576 ≤ s1 ∧ s1 ≤ 1048576 := by omega
        have hs2 : -1048576 ≤ s2 ∧ s2 ≤ 1048576 := by omega
        have fm2 : ∀ (s : Int) (k : Nat), -1048576 ≤ s → s ≤ 1048576 → k ≤ 30 → -31457280 ≤ s * k ∧ s * k ≤ 31457280 := fun s k h1 h2 h3 => by
          have g1 : s * k ≤ 1048576 * k := Int.mul_le_mul_of_nonneg_right h2 (by omega)
          have g2 : -1048576 * (k : Int) ≤ s * k := Int.mul_le_mul_of_nonneg_right h1 (by omega)
          omega
        have f3 := fm2 s1 m hs1.1 hs1.2 h30'
        have f4 := fm2 s2 n hs2.1 hs2.2 h30
        rw [hsm'] at f3
        rw [hsn'] at f4
        have hdb : -62914560 ≤ d ∧ d ≤ 62914560 := by omega
        have hddb : 0 ≤ d * d ∧ d * d ≤ 3958241859993600 := by
          have g1 : 0 ≤ (62914560 - d) * (62914560 + d) := Int.mul_nonneg (by omega) (by omega)
          have g2 : (62914560 - d) * (62914560 + d) = 3958241859993600 - d * d := by grind
          exact ⟨by rcases Int.le_total 0 d with h | h; exact Int.mul_nonneg h h; exact Int.mul_nonneg_of_nonpos_of_nonpos h h, by omega⟩
        have hnm : 0 ≤ (n : Int) * m ∧ (n : Int) * m ≤ 30 * 30 := ⟨Int.mul_nonneg (by omega) (by omega), Int.mul_le_mul (by omega) (by omega) (by omega) (by omega)⟩
        obtain ⟨nm, hnm'⟩ : ∃ z, (n : Int) * (m : Int) = z := ⟨_, rfl⟩
        rw [hnm'] at hnm HST
        have hA : 0 ≤ nm * S3 ∧ nm * S3 ≤ 900 * 3958241859993600 := ⟨Int.mul_nonneg (by omega) (by omega), Int.mul_le_mul (by omega) (by omega) (by omega) (by omega)⟩
        have hB1 : 0 ≤ (m : Int) * S1 ∧ (m : Int) * S1 ≤ 30 * 989560464998400 := ⟨Int.mul_nonneg (by omega) (by omega), Int.mul_le_mul (by omega) (by omega) (by omega) (by omega)⟩
        have hB2 : 0 ≤ (n : Int) * S2 ∧ (n : Int) * S2 ≤ 30 * 989560464998400 := ⟨Int.mul_nonneg (by omega) (by omega), Int.mul_le_mul (by omega) (by omega) (by omega) (by omega)⟩
        obtain ⟨A, hA'⟩ : ∃ z, nm * S3 = z := ⟨_, rfl⟩
        obtain ⟨P1, hP1⟩ : ∃ z, (m : Int) * S1 = z := ⟨_, rfl⟩
        obtain ⟨P2, hP2⟩ : ∃ z, (n : Int) * S2 = z := ⟨_, rfl⟩
        obtain ⟨P, hP⟩ : ∃ z, P1 + P2 = z := ⟨_, rfl⟩
        obtain ⟨np, hnp⟩ : ∃ z, (n : Int) + (m : Int) = z := ⟨_, rfl⟩
        obtain ⟨dd, hdd⟩ : ∃ z, d * d = z := ⟨_, rfl⟩
        rw [hA'] at hA
        rw [hP1] at hB1
        rw [hP2] at hB2
        rw [hdd] at hddb
        rw [hA', hP1, hP2, hP, hnp, hdd] at HST
        have hC : 0 ≤ np * P ∧ np * P ≤ 60 * 59373627899904000 := ⟨Int.mul_nonneg (by omega) (by omega), Int.mul_le_mul (by omega) (by omega) (by omega) (by omega)⟩
        obtain ⟨C, hC'⟩ : ∃ z, np * P = z := ⟨_, rfl⟩
        rw [hC'] at hC HST
        have hst := HST.out
        have x1 : IntKind.i64.wrap ((n : Int) * (m : Int)) = nm := by rw [IntKind.wrap_i64, hnm']; omega
        have x2 : IntKind.i64.wrap (nm * S3) = A := by rw [IntKind.wrap_i64, hA']; omega
        have x3 : IntKind.i64.wrap ((n : Int) + (m : Int)) = np := by rw [IntKind.wrap_i64, hnp]; omega
        have x4 : IntKind.i64.wrap ((m : Int) * S1) = P1 := by rw [IntKind.wrap_i64, hP1]; omega
        have x5 : IntKind.i64.wrap ((n : Int) * S2) = P2 := by rw [IntKind.wrap_i64, hP2]; omega
        have x6 : IntKind.i64.wrap (P1 + P2) = P := by rw [IntKind.wrap_i64, hP]; omega
        have x7 : IntKind.i64.wrap (np * P) = C := by rw [IntKind.wrap_i64, hC']; omega
        have x8 : IntKind.i64.wrap (d * d) = dd := by rw [IntKind.wrap_i64, hdd]; omega
        have x9 : IntKind.i64.wrap (C + dd) = A := by rw [IntKind.wrap_i64]; omega
        have x10 : (A == A) = true := by simp
        clear hmx g1 z1 z2 z3 z4 z5 fm f1 f2 hsm' hsn' hd g2 g3 h30 h30' hmx4 g4 hs1 hs2 fm2 f3 f4 hdb hddb hnm hnm' hA hB1 hB2 hA' hP1 hP2 hP hnp hdd hC hC' hst
        go_wp2_with fail
        try go_region
        go_wp2_with fail
        try go_region
        go_wp2_with fail
        go_ret
        exact ⟨rfl, HB14.out⟩
      · obtain rfl := HN3.out hok3
        clear hok1 hok2 hok3
        go_wp2_with fail
        go_ret
        exact ⟨rfl, HB9'.out⟩
    · obtain rfl := HN2.out hok2
      clear hok1 hok2
      go_wp2_with fail
      go_ret
      exact ⟨rfl, HB9'.out⟩
  · obtain rfl := HN1.out hok1
    clear hok1
    go_wp2_with fail
    go_ret
    exact ⟨rfl, HB9'.out⟩
theorem walk (a0 : Option Addr) (len0 cap0 : Nat) (z0 : List Int) (a1 : Option Addr) (len1 cap1 : Nat) (z1 : List Int) (w : World) (w0 : IsRow .i64 w a0 len0 cap0 z0) (r0 : len0 * 8 ≤ 140737488351232) (w1 : IsRow .i64 w a1 len1 cap1 z1) (r1 : len1 * 8 ≤ 140737488351232) :
    Calls Try.prog 7 #[.slice a0 len0 cap0, .slice a1 len1 cap1] w fun e w' => e = .returned (.bool true) ∧ Below w.heap.size w w' := by
  obtain ⟨h1, -⟩ := w0.rd
  obtain ⟨h2, -⟩ := w1.rd
  have f : ∀ (a : Option Addr) (n c : Nat) (z : List Int), Rd w (.slice a n c) z → z.length = n := fun a n c z h => by
    obtain ⟨_, _, he, -⟩ := h.open
    injection he with _ h5 _
    exact h5.symm
  have g : ∀ (a : Option Addr) (n c : Nat) (z : List Int), IsRow .i64 w a n c z → a = none → n = 0 ∧ c = 0 := fun a n c z h e => by
    rcases h with ⟨-, h2, h3, -⟩ | ⟨x, h1, -⟩
    · exact ⟨h2, h3⟩
    · rw [e] at h1; cases h1
  exact run _ _ _ _ _ _ _ _ w h1 h2 (g _ _ _ _ w0) (g _ _ _ _ w1) (by rw [f _ _ _ _ h1]; exact r0) (by rw [f _ _ _ _ h2]; exact r1)
end Go.Proofs.Ytdlnjalkbgkhdaa.statsParts
