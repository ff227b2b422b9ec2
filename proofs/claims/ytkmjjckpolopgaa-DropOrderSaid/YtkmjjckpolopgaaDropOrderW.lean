/- The walk of DropOrder. No condition beyond rows within the reach. -/
import Derived.Test.YtkmjjckpolopgaaAl
import Derived.Test.YtkmjjckpolopgaaReverse
set_option linter.unusedSimpArgs false
set_option linter.unusedVariables false
namespace Go.Proofs.Ytkmjjckpolopgaa.dropOrder
open Go.RowKit Go.Proofs.Ytkmjjckpolopgaa
theorem mn_cmp {N D N' D' : Int} (hN : 1 ≤ N) (hN' : 1 ≤ N') (h : N * D' ≤ N' * D) : ∀ {l : List Int}, Wts l → mn N' D' l * N ≤ mn N D l * N'
  | [], _ => by simp [mn]
  | x :: l, hw => by
    have ih := mn_cmp hN hN' h (l := l) fun y hy => hw y (List.mem_cons_of_mem _ hy)
    have hx := hw x List.mem_cons_self
    simp only [mn, Int.add_mul]
    have h1 : min (x * D') N' * N ≤ min (x * D) N * N' := by
      by_cases g : x * D ≤ N
      · rw [Int.min_eq_left g]
        have e1 : min (x * D') N' * N ≤ x * D' * N := Int.mul_le_mul_of_nonneg_right (Int.min_le_left _ _) (by omega)
        have e2 : x * (N * D') ≤ x * (N' * D) := Int.mul_le_mul_of_nonneg_left h (by omega)
        have e3 : x * D' * N = x * (N * D') := by grind
        have e4 : x * D * N' = x * (N' * D) := by grind
        omega
      · rw [Int.min_eq_right (by omega : N ≤ x * D)]
        have e1 : min (x * D') N' * N ≤ N' * N := Int.mul_le_mul_of_nonneg_right (Int.min_le_right _ _) (by omega)
        have e2 : N' * N = N * N' := Int.mul_comm _ _
        omega
    omega
theorem lev_mono {zs : List Int} {keep : Int} (h : OkD zs keep) (h' : OkD zs (keep + 1)) (hk : keep + 1 < zs.length) : (lev zs (keep + 1)).1 * (lev zs keep).2 ≤ (lev zs keep).1 * (lev zs (keep + 1)).2 := by
  obtain ⟨a1, a2, a3, a4, a5⟩ := lev_law h (by omega)
  obtain ⟨b1, b2, b3, b4, b5⟩ := lev_law h' hk
  generalize (lev zs (keep + 1)).1 = N' at *
  generalize (lev zs (keep + 1)).2 = D' at *
  generalize (lev zs keep).1 = N at *
  generalize (lev zs keep).2 = D at *
  refine Int.not_lt.1 fun hlt => ?_
  have h1 := mn_cmp a1 b1 (Int.le_of_lt hlt) h.2.2.2
  rw [a5, b5] at h1
  have e : (keep + 1) * N' * N = keep * N * N' + N' * N := by grind
  have hp : 0 < N' * N := Int.mul_pos (by omega) (by omega)
  omega
theorem okd_rev {zs : List Int} {keep : Int} : OkD zs.reverse keep ↔ OkD zs keep := by
  unfold OkD Wts; simp
theorem lev_tot (v : Value) (zs : List Int) (keep : Int) (w : World) (h : Rd w v zs) :
    Calls Try.prog 9 #[v, .int .i64 keep] w fun e w' => (∃ er a b : Int, (OkD zs keep → er = 0 ∧ a = (lev zs keep).1 ∧ b = (lev zs keep).2) ∧ (¬ OkD zs keep → er = 2) ∧ e = .returned (.tuple #[.agg #[.int .i64 a, .int .i64 b], .int .i64 er])) ∧ Below w.heap.size w w' := by
  by_cases hok : OkD zs keep
  · by_cases hk : (zs.length : Int) ≤ keep
    · refine (lev_few_any v zs keep w h hok hk).mono ?_
      rintro e w' ⟨rfl, hb⟩
      exact ⟨⟨0, 0, 0, fun _ => ⟨rfl, by rw [lev_few hk], by rw [lev_few hk]⟩, fun g => absurd hok g, rfl⟩, hb⟩
    · refine (lev_many_any v zs keep w h hok (by omega)).mono ?_
      rintro e w' ⟨rfl, hb⟩
      exact ⟨⟨0, _, _, fun _ => ⟨rfl, rfl, rfl⟩, fun g => absurd hok g, rfl⟩, hb⟩
  · refine (lev_bad v zs keep w h hok).mono ?_
    rintro e w' ⟨rfl, hb⟩
    exact ⟨⟨2, 0, 0, fun g => absurd g hok, fun _ => rfl, rfl⟩, hb⟩
set_option maxHeartbeats 1600000 in
theorem run (v : Value) (zs : List Int) (keep : Int) (w : World) (h : Rd w v zs) (hr : zs.length * 8 ≤ 140737488351232) (hki : -9223372036854775808 ≤ keep ∧ keep ≤ 9223372036854775807) :
    Calls Try.prog 7 #[v, .int .i64 keep] w fun e w' => e = .returned (.bool true) ∧ Below w.heap.size w w' := by
  have HR := Lib.hid h
  obtain ⟨a, cap, he1, -⟩ := h.open
  obtain ⟨n, hn⟩ : ∃ n, zs.length = n := ⟨_, rfl⟩
  rw [hn] at he1
  have HN := Lib.hid hn
  have HCL := Lib.hid (fun w1 hb1 => clone_any v zs w1 (HR.out.below (w' := w1) hb1 (Nat.le_refl _)) (by omega))
  have HL := Lib.hid (fun w1 hb1 k => lev_tot v zs k w1 (HR.out.below (w' := w1) hb1 (Nat.le_refl _)))
  obtain ⟨k2, hk2⟩ : ∃ k, IntKind.i64.wrap (keep + 1) = k := ⟨_, rfl⟩
  have HK2 := Lib.hid hk2
  have HKI := Lib.hid hki
  subst he1
  clear h hn hr hki
  go_enter Try.func7, Try.ntmps7
  go_wp2_with fail
  refine (alive_any w).mono ?_
  rintro e w1 ⟨rfl, hb1⟩
  have HB1 := Lib.hid hb1
  have HC := Lib.hid (HCL.out w1 hb1)
  clear hb1
  go_wp2_with fail
  refine HC.out.mono ?_
  rintro e w2 ⟨v2, rfl, ho2, hb2⟩
  have HB2 := Lib.hid (HB1.out.trans (hb2.mono HB1.out.size))
  have HC := Lib.hid (rev_ok v2 zs.length w.heap.size zs w2 (own_base ho2 HB1.out.size))
  clear hb2 ho2 HCL
  go_wp2_with fail
  refine HC.out.mono ?_
  rintro e w3 ⟨rfl, hb3, ho3⟩
  have hb3' := HB2.out.trans hb3
  have HB3 := Lib.hid hb3'
  have HRV := Lib.hid (Rd.own ho3)
  have HC := Lib.hid (HL.out w3 hb3' keep)
  clear hb3 hb3' ho3
  go_wp2_with fail
  refine HC.out.mono ?_
  rintro e w4 ⟨⟨er1, a1, b1, hg1, hn1, rfl⟩, hb4⟩
  have HG1 := Lib.hid hg1
  have HN1 := Lib.hid hn1
  obtain ⟨w5, hw5⟩ : ∃ X, w4.alloc (.cells #[.int .i64 a1, .int .i64 b1] 25) = X := ⟨_, rfl⟩
  have hb5 : Below w3.heap.size w3 w5 := by rw [← hw5]; exact hb4.alloc hb4.size _
  have HB5 := Lib.hid (HB3.out.trans (hb5.mono HB3.out.size))
  have HKA := Lib.hid (kept2 hw5)
  have HRV := Lib.hid (HRV.out.below hb5 (Nat.le_refl _))
  have HC := Lib.hid (lev_tot v2 zs.reverse keep w5 HRV.out)
  have HW5 := Lib.hid hw5
  clear hg1 hn1 hb4 hb5 hw5
  go_wp2_with fail
  rw [HW5.out]
  obtain ⟨B1, hB1⟩ : ∃ B, w4.heap.size = B := ⟨_, rfl⟩
  rw [hB1] at HKA ⊢
  clear HW5 hB1
  refine HC.out.mono ?_
  rintro e w6 ⟨⟨er2, a2, b2, hg2, hn2, rfl⟩, hb6⟩
  have HG2 := Lib.hid hg2
  have HN2 := Lib.hid hn2
  obtain ⟨w7, hw7⟩ : ∃ X, w6.alloc (.cells #[.int .i64 a2, .int .i64 b2] 25) = X := ⟨_, rfl⟩
  have hb7 : Below w5.heap.size w5 w7 := by rw [← hw7]; exact hb6.alloc hb6.size _
  have HB57 := Lib.hid hb7
  have hb7' := HB5.out.trans (hb7.mono HB5.out.size)
  have HB7 := Lib.hid hb7'
  have HKB := Lib.hid (kept2 hw7)
  have HC := Lib.hid (HL.out w7 hb7' k2)
  have HW7 := Lib.hid hw7
  clear hg2 hn2 hb6 hb7 hb7' hw7
  go_wp2_with fail
  rw [HW7.out]
  obtain ⟨B2, hB2⟩ : ∃ B, w6.heap.size = B := ⟨_, rfl⟩
  rw [hB2] at HKB ⊢
  clear HW7 hB2
  refine HC.out.mono ?_
  rintro e w8 ⟨⟨er3, a3, b3, hg3, hn3, rfl⟩, hb8⟩
  have HG3 := Lib.hid hg3
  have HN3 := Lib.hid hn3
  obtain ⟨w9, hw9⟩ : ∃ X, w8.alloc (.cells #[.int .i64 a3, .int .i64 b3] 25) = X := ⟨_, rfl⟩
  have hb9 : Below w7.heap.size w7 w9 := by rw [← hw9]; exact hb8.alloc hb8.size _
  have HB9 := Lib.hid (HB7.out.trans (hb9.mono HB7.out.size))
  obtain ⟨c5, c6⟩ := kept2 hw9 w9 (Below.refl _ _)
  obtain ⟨c3, c4⟩ := HKB.out w9 hb9
  obtain ⟨c1, c2⟩ := HKA.out w9 (HB57.out.trans (hb9.mono HB57.out.size))
  rw [← hw9] at c1 c2 c3 c4 c5 c6
  have HW9 := Lib.hid hw9
  have HB9' : Hid (Below w.heap.size w (w8.alloc (.cells #[.int .i64 a3, .int .i64 b3] 25))) := by show Below _ _ _; rw [hw9]; exact HB9.out
  clear hg3 hn3 hb8 hb9 hw9 HC HKA HKB HL HW9 hk2
  by_cases hok : OkD zs keep
  · obtain ⟨rfl, e1, e2⟩ := HG1.out hok
    obtain ⟨rfl, e3, e4⟩ := HG2.out (okd_rev.2 hok)
    have er : lev zs.reverse keep = lev zs keep := lev_perm (List.reverse_perm zs) keep
    rw [er, ← e1] at e3
    rw [er, ← e2] at e4
    subst e3 e4
    have hk2' : k2 = keep + 1 := by rw [← HK2.out, IntKind.wrap_i64]; have := hok.2; omega
    have HE1 := Lib.hid e1
    have HE2 := Lib.hid e2
    clear e1 e2 er
    by_cases hok3 : OkD zs k2
    · obtain ⟨rfl, e5, e6⟩ := HG3.out hok3
      subst hk2'
      by_cases hD : b3 = 0
      · have t1 : (b3 == 0) = true := by rw [beq_iff_eq]; exact hD
        clear hok hok3 e5 e6 hD
        go_wp2_with fail
        try go_region
        go_wp2_with fail
        go_ret
        exact ⟨rfl, HB9'.out⟩
      · have t1 : (b3 == 0) = false := by rw [beq_eq_false_iff_ne]; exact hD
        have hlt : keep + 1 < zs.length := Int.not_le.1 fun g => hD (by rw [e6, lev_few g])
        have hmo := lev_mono hok hok3 hlt
        obtain ⟨x1, x2, x3, x4, -⟩ := lev_law hok (by omega)
        obtain ⟨y1, y2, y3, y4, -⟩ := lev_law hok3 hlt
        have hk4 := hok3.2.2.1
        rw [← e5, ← e6, ← HE1.out, ← HE2.out] at hmo
        rw [← HE1.out] at x1 x2
        rw [← HE2.out] at x3 x4
        rw [← e5] at y1 y2
        rw [← e6] at y3 y4
        have m1 : 0 ≤ a3 * b2 ∧ a3 * b2 ≤ 419430400 * 400 := ⟨Int.mul_nonneg (by omega) (by omega), Int.mul_le_mul (by omega) (by omega) (by omega) (by omega)⟩
        have m2 : 0 ≤ a2 * b3 ∧ a2 * b3 ≤ 419430400 * 400 := ⟨Int.mul_nonneg (by omega) (by omega), Int.mul_le_mul (by omega) (by omega) (by omega) (by omega)⟩
        obtain ⟨p1, hp1⟩ : ∃ z, a3 * b2 = z := ⟨_, rfl⟩
        obtain ⟨p2, hp2⟩ : ∃ z, a2 * b3 = z := ⟨_, rfl⟩
        have z1 : IntKind.i64.wrap (a3 * b2) = p1 := by rw [IntKind.wrap_i64, hp1]; omega
        have z2 : IntKind.i64.wrap (a2 * b3) = p2 := by rw [IntKind.wrap_i64, hp2]; omega
        have t2 : decide (p1 ≤ p2) = true := decide_eq_true (by omega)
        clear hok hok3 e5 e6 hD hlt hmo x1 x2 x3 x4 y1 y2 y3 y4 hk4 m1 m2 hp1 hp2
        go_wp2_with fail
        try go_region
        go_wp2_with fail
        go_ret
        exact ⟨rfl, HB9'.out⟩
    · obtain rfl := HN3.out hok3
      clear hok hok3
      go_wp2_with fail
      try go_region
      go_wp2_with fail
      go_ret
      exact ⟨rfl, HB9'.out⟩
  · obtain rfl := HN1.out hok
    obtain rfl := HN2.out (fun g => hok (okd_rev.1 g))
    clear hok
    go_wp2_with fail
    go_ret
    exact ⟨rfl, HB9'.out⟩
theorem walk (a0 : Option Addr) (len0 cap0 : Nat) (z0 : List Int) (keep : Int) (w : World) (w0 : IsRow .i64 w a0 len0 cap0 z0) (r0 : len0 * 8 ≤ 140737488351232) (w1 : (Lit.int .i64 keep).wf = true) :
    Calls Try.prog 7 #[.slice a0 len0 cap0, .int .i64 keep] w fun e w' => e = .returned (.bool true) ∧ Below w.heap.size w w' := by
  obtain ⟨h1, -⟩ := w0.rd
  have hl : (z0.take len0).length = len0 := by
    obtain ⟨a', c', he, -⟩ := h1.open
    injection he with _ h5 _
    exact h5.symm
  exact run _ _ keep w h1 (by rw [hl]; exact r0) (by
    have h := w1
    simp [Lit.wf] at h
    exact ⟨h.1, h.2⟩)
end Go.Proofs.Ytkmjjckpolopgaa.dropOrder
