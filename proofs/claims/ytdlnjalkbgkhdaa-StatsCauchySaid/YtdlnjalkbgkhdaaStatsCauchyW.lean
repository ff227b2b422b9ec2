/- The walk of StatsCauchy. No condition beyond rows within the reach. -/
import Derived.Test.YtdlnjalkbgkhdaaAl
import Derived.Test.YtdlnjalkbgkhdaaCauL
set_option linter.unusedSimpArgs false
set_option linter.unusedVariables false
namespace Go.Proofs.Ytdlnjalkbgkhdaa.statsCauchy
open Go.RowKit Go.Proofs.Ytdlnjalkbgkhdaa
theorem max2_run (a b : Int) (w : World) : (Builtin.max_ #[3, 3] 3 #[.int .i64 a, .int .i64 b]).run Try.prog w = .ok (.int .i64 (max a b)) w := by
  have h2 : ∀ (x y : Int) (w : World), (Builtin.max2 (.int .i64 x) (.int .i64 y)).run Try.prog w = .ok (.int .i64 (max x y)) w := fun x y w => by
    have e : (if x < y then y else x) = max x y := by split <;> omega
    simp [Builtin.max2, e]
  simp [Builtin.max_, List.foldlM, h2, Sem.run_bind, Result.andThen]
theorem both_tot (v v' : Value) (x y : List Int) (w : World) (h : Rd w v x) (h' : Rd w v' y) :
    Calls Try.prog 9 #[v, v'] w fun e w' => (∃ a er : Int, e = .returned (.tuple #[.int .i64 a, .int .i64 er])) ∧ Below w.heap.size w w' := by
  by_cases hk : OkL x ∧ OkL y ∧ x.length = y.length
  · refine (both_any v v' x y w h h' hk.1 hk.2.1 hk.2.2).mono ?_
    rintro e w' ⟨rfl, hb⟩
    exact ⟨⟨_, _, rfl⟩, hb⟩
  · refine (both_bad v v' x y w h h' hk).mono ?_
    rintro e w' ⟨⟨er, -, rfl⟩, hb⟩
    exact ⟨⟨_, _, rfl⟩, hb⟩
set_option maxHeartbeats 1600000 in
theorem run (v v' : Value) (x y : List Int) (w : World) (h : Rd w v x) (h' : Rd w v' y) :
    Calls Try.prog 3 #[v, v'] w fun e w' => e = .returned (.bool true) ∧ Below w.heap.size w w' := by
  have HR := Lib.hid h
  have HR' := Lib.hid h'
  obtain ⟨a, cap, he1, -⟩ := h.open
  obtain ⟨a', cap', he2, -⟩ := h'.open
  have HV := Lib.hid he1
  have HV' := Lib.hid he2
  obtain ⟨n, hn⟩ : ∃ n, x.length = n := ⟨_, rfl⟩
  obtain ⟨m, hm⟩ : ∃ m, y.length = m := ⟨_, rfl⟩
  rw [hn] at HV
  rw [hm] at HV'
  by_cases hk : OkL x ∧ OkL y ∧ x.length = y.length
  · obtain ⟨hx, hy, hxy⟩ := hk
    have hrx := right_of hx.2 (by have := hx.1; omega)
    have hry := right_of hy.2 (by have := hy.1; omega)
    have hca := cauchy hxy
    have hs0 := spr_nn x
    have hu0 := spr_nn y
    have HB := Lib.hid (fun w1 hb1 => both_any v v' x y w1 (HR.out.below (w' := w1) hb1 (Nat.le_refl _)) (HR'.out.below hb1 (Nat.le_refl _)) hx hy hxy)
    have HB' := Lib.hid (fun w1 hb1 => both_any v' v y x w1 (HR'.out.below (w' := w1) hb1 (Nat.le_refl _)) (HR.out.below hb1 (Nat.le_refl _)) hy hx hxy.symm)
    have HBO := Lib.hid (fun w1 hb1 => both_any v v x x w1 (HR.out.below (w' := w1) hb1 (Nat.le_refl _)) (HR.out.below hb1 (Nat.le_refl _)) hx hx rfl)
    have HO := Lib.hid (fun w1 hb1 => of_good v x w1 (HR.out.below (w' := w1) hb1 (Nat.le_refl _)) hx)
    have HO' := Lib.hid (fun w1 hb1 => of_good v' y w1 (HR'.out.below (w' := w1) hb1 (Nat.le_refl _)) hy)
    have HS := Lib.hid (fun w1 => spread_any _ _ _ w1 hrx)
    have HS' := Lib.hid (fun w1 => spread_any _ _ _ w1 hry)
    rw [← cov_comm hxy] at HB'
    rw [cov_self, spr_eq] at HBO
    rw [spr_eq] at HS HS'
    rw [hn] at HO HS
    rw [hm] at HO' HS'
    unfold mv at HO HO' HS HS'
    clear hrx hry hx hy hxy
    generalize spr x = s at *
    generalize spr y = u at *
    generalize cov x y = b at *
    generalize sm x = s1 at *
    generalize sq x = q1 at *
    generalize sm y = s2 at *
    generalize sq y = q2 at *
    obtain ⟨p, hp⟩ : ∃ p, b * b = p := ⟨_, rfl⟩
    obtain ⟨q, hq⟩ : ∃ q, s * u = q := ⟨_, rfl⟩
    have HFIN : Hid (max s u ≤ 1073741824 → IntKind.i64.wrap (b * b) = p ∧ IntKind.i64.wrap (s * u) = q ∧ decide (p ≤ q) = true) := fun hmx => by
      have h1 : s * u ≤ 1073741824 * 1073741824 := Int.mul_le_mul (by omega) (by omega) hu0 (by omega)
      have h2 := sqnn b
      rw [hp] at hca h2
      rw [hq] at hca h1
      exact ⟨by rw [IntKind.wrap_i64, hp]; omega, by rw [IntKind.wrap_i64, hq]; omega, decide_eq_true hca⟩
    have e1 := HV.out
    have e2 := HV'.out
    subst e1
    subst e2
    clear hn hm hca hs0 hu0 h h' he1 he2 HV HV' hp hq
    go_enter Try.func3, Try.ntmps3
    go_wp2_with fail
    refine (alive_any w).mono ?_
    rintro e w1 ⟨rfl, hb1⟩
    have HB1 := Lib.hid hb1
    have HC := Lib.hid (HB.out w1 hb1)
    clear hb1
    go_wp2_with fail
    refine HC.out.mono ?_
    rintro e w2 ⟨rfl, hb2⟩
    have hb2' := HB1.out.trans (hb2.mono HB1.out.size)
    have HB2 := Lib.hid hb2'
    have HC := Lib.hid (HB'.out w2 hb2')
    clear hb2 hb2'
    go_wp2_with fail
    refine HC.out.mono ?_
    rintro e w3 ⟨rfl, hb3⟩
    have hb3' := HB2.out.trans (hb3.mono HB2.out.size)
    have HB3 := Lib.hid hb3'
    have HC := Lib.hid (HBO.out w3 hb3')
    clear hb3 hb3'
    go_wp2_with fail
    refine HC.out.mono ?_
    rintro e w4 ⟨rfl, hb4⟩
    have hb4' := HB3.out.trans (hb4.mono HB3.out.size)
    have HB4 := Lib.hid hb4'
    have HC := Lib.hid (HO.out w4 hb4')
    clear hb4 hb4'
    go_wp2_with fail
    refine HC.out.mono ?_
    rintro e w5 ⟨rfl, hb5⟩
    have HB5 := Lib.hid (HB4.out.trans (hb5.mono HB4.out.size))
    obtain ⟨w6, hw6⟩ : ∃ w6, w5.alloc (.cells #[.int .i64 (n : Int), .int .i64 s1, .int .i64 q1] 28) = w6 := ⟨_, rfl⟩
    have hb6 : Below w.heap.size w w6 := by rw [← hw6]; exact HB5.out.alloc HB5.out.size _
    have HB6 := Lib.hid hb6
    have HK := Lib.hid (kept3 hw6)
    have HC := Lib.hid (HO'.out w6 hb6)
    have HW6 := Lib.hid hw6
    clear hb5 hb6 hw6
    go_wp2_with fail
    rw [HW6.out]
    obtain ⟨B5, hB5⟩ : ∃ B, w5.heap.size = B := ⟨_, rfl⟩
    rw [hB5] at HK ⊢
    clear HW6 hB5
    refine HC.out.mono ?_
    rintro e w7 ⟨rfl, hb7⟩
    obtain ⟨w8, hw8⟩ : ∃ w8, w7.alloc (.cells #[.int .i64 (m : Int), .int .i64 s2, .int .i64 q2] 28) = w8 := ⟨_, rfl⟩
    have hb8 : Below w6.heap.size w6 w8 := by rw [← hw8]; exact hb7.alloc hb7.size _
    have HB8 := Lib.hid (HB6.out.trans (hb8.mono HB6.out.size))
    have HK' := Lib.hid (kept3 hw8)
    have HC := Lib.hid (HS.out w8)
    have HX8 := Lib.hid hb8
    have HW8 := Lib.hid hw8
    obtain ⟨c0, c1, c2⟩ := HK.out w8 HX8.out
    rw [← hw8] at c0 c1 c2
    clear hb7 hb8 hw8
    go_wp2_with fail
    rw [HW8.out]
    obtain ⟨B7, hB7⟩ : ∃ B, w7.heap.size = B := ⟨_, rfl⟩
    rw [hB7] at HK' ⊢
    clear HW8 hB7
    refine HC.out.mono ?_
    rintro e w9 ⟨rfl, hb9⟩
    have HB9 := Lib.hid (HB8.out.trans (hb9.mono HB8.out.size))
    have HC := Lib.hid (HS'.out w9)
    clear c0 c1 c2
    obtain ⟨c0, c1, c2⟩ := HK'.out w9 hb9
    clear hb9
    go_wp2_with fail
    refine HC.out.mono ?_
    rintro e w10 ⟨rfl, hb10⟩
    have HB10 := Lib.hid (HB9.out.trans (hb10.mono HB9.out.size))
    have emax := fun (w : World) => max2_run s u w
    have HFN := HFIN
    clear c0 c1 c2 hb10 HC HB HB' HBO HO HO' HS HS' HFIN HK HK'
    obtain ⟨mx, hmx⟩ : ∃ mx, max s u = mx := ⟨_, rfl⟩
    rw [hmx] at emax HFN
    have t0 : (b != b) = false := by simp
    have t1 : (s != s) = false := by simp
    clear hmx
    by_cases hm : mx ≤ 1073741824
    · obtain ⟨y1, y2, t3⟩ := HFN.out hm
      have t2 : decide ((1073741824 : Int) < mx) = false := decide_eq_false (by omega)
      clear HFN hm
      go_wp2_with fail
      go_ret
      exact ⟨rfl, HB10.out⟩
    · have t2 : decide ((1073741824 : Int) < mx) = true := decide_eq_true (by omega)
      clear HFN hm
      go_wp2_with fail
      go_ret
      exact ⟨rfl, HB10.out⟩
  · have HB := Lib.hid (fun w1 hb1 => both_bad v v' x y w1 (HR.out.below (w' := w1) hb1 (Nat.le_refl _)) (HR'.out.below hb1 (Nat.le_refl _)) hk)
    have HB' := Lib.hid (fun w1 hb1 => both_tot v' v y x w1 (HR'.out.below (w' := w1) hb1 (Nat.le_refl _)) (HR.out.below hb1 (Nat.le_refl _)))
    have HBO := Lib.hid (fun w1 hb1 => both_tot v v x x w1 (HR.out.below (w' := w1) hb1 (Nat.le_refl _)) (HR.out.below hb1 (Nat.le_refl _)))
    have e1 := HV.out
    have e2 := HV'.out
    subst e1
    subst e2
    clear hn hm h h' he1 he2 HV HV' hk
    go_enter Try.func3, Try.ntmps3
    go_wp2_with fail
    refine (alive_any w).mono ?_
    rintro e w1 ⟨rfl, hb1⟩
    have HB1 := Lib.hid hb1
    have HC := Lib.hid (HB.out w1 hb1)
    clear hb1
    go_wp2_with fail
    refine HC.out.mono ?_
    rintro e w2 ⟨⟨er, her, rfl⟩, hb2⟩
    have hb2' := HB1.out.trans (hb2.mono HB1.out.size)
    have HB2 := Lib.hid hb2'
    have HC := Lib.hid (HB'.out w2 hb2')
    clear hb2 hb2'
    go_wp2_with fail
    refine HC.out.mono ?_
    rintro e w3 ⟨⟨a1, e1, rfl⟩, hb3⟩
    have hb3' := HB2.out.trans (hb3.mono HB2.out.size)
    have HB3 := Lib.hid hb3'
    have HC := Lib.hid (HBO.out w3 hb3')
    clear hb3 hb3'
    go_wp2_with fail
    refine HC.out.mono ?_
    rintro e w4 ⟨⟨a2, e2, rfl⟩, hb4⟩
    have HB4 := Lib.hid (HB3.out.trans (hb4.mono HB3.out.size))
    have t1 : ((er : Int) != 0) = true := by rw [bne_iff_ne]; omega
    clear hb4 HC HB HB' HBO
    go_wp2_with fail
    go_ret
    exact ⟨rfl, HB4.out⟩
theorem walk (a0 : Option Addr) (len0 cap0 : Nat) (z0 : List Int) (a1 : Option Addr) (len1 cap1 : Nat) (z1 : List Int) (w : World) (w0 : IsRow .i64 w a0 len0 cap0 z0) (w1 : IsRow .i64 w a1 len1 cap1 z1) :
    Calls Try.prog 3 #[.slice a0 len0 cap0, .slice a1 len1 cap1] w fun e w' => e = .returned (.bool true) ∧ Below w.heap.size w w' := by
  obtain ⟨h1, -⟩ := w0.rd
  obtain ⟨h2, -⟩ := w1.rd
  exact run _ _ _ _ w h1 h2
end Go.Proofs.Ytdlnjalkbgkhdaa.statsCauchy
