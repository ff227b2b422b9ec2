/- The walk of RuinHarmonic. No condition. -/
import Derived.Test.YtkppkfbgolmonaaLaws
import Derived.Deep.RegionWith
set_option linter.unusedSimpArgs false
set_option linter.unusedVariables false
namespace Go.Proofs.Ytkppkfbgolmonaa.ruinHarmonic
open Go.RowKit Go.Proofs.Ytkppkfbgolmonaa
theorem gcd10 (a b : Nat) (w : World) : Calls Try.prog 10 #[.int .i64 a, .int .i64 b] w fun e w' => e = .returned (.int .i64 (Nat.gcd a b : Nat)) ∧ ∃ m, w' = w.drewN m := by
  go_enter Try.func10, Try.ntmps10
  go_wp2_with fail
  go_loopw [0, 1] (fun av bv wr => ∃ x y m : Nat, av = .int .i64 x ∧ bv = .int .i64 y ∧ Hid (Nat.gcd x y = Nat.gcd a b) ∧ Hid (wr = w.drewN m)) (fun _ bv _ => (intOf bv).toNat)
  case atStart => exact ⟨a, b, 0, rfl, rfl, rfl, rfl⟩
  case round =>
    obtain ⟨x, y, m, rfl, rfl, hg, hbel⟩ := hrel
    by_cases hy : 0 < y
    · have HG : Hid (Nat.gcd y (x % y) = Nat.gcd a b) := by
        show _ = _
        rw [← hg.out, Nat.gcd_comm y, ← Nat.gcd_rec, Nat.gcd_comm]
      have hlt : x % y < y := Nat.mod_lt _ hy
      go_wp2_with fail
      go_quiet (fail)
      go_wp2_with fail
      go_roundw
      case rel => exact ⟨y, x % y, _, rfl, rfl, HG.out, by rw [hbel.out, World.drewN_drewN]; exact rfl⟩
      case measure => simp [intOf]; omega
    · obtain rfl : y = 0 := by omega
      have HG : Hid (Nat.gcd a b = x) := by show _ = _; rw [← hg.out, Nat.gcd_zero_right]
      go_wp2_with fail
      go_ret
      exact ⟨by rw [HG.out]; rfl, m, hbel.out⟩
theorem quiet_add {P : Program} {f : FuncId} {args : Array Value} {w : World} {a n : Nat} {v : Value}
    (h : Calls P f args ((w.drewN (a + n))) fun e w' => e = .returned v ∧ ∃ m, w' = (w.drewN (a + n)).drewN m) :
    Calls P f args (w.drewN (a + n)) fun e w'' => e = .returned v ∧ ∃ m, w'' = w.drewN (a + m) :=
  h.mono fun _ _ ⟨he, m, hm⟩ => ⟨he, n + m, by rw [hm, World.drewN_drewN, Nat.add_assoc]⟩
theorem kept_alloc {w : World} {b : Nat} {o : Obj} (h : w.heap[b]? = some o) (p : Obj) : (w.alloc p).heap[b]? = some o := by
  rw [Below.heap_alloc _ _ _ (lt_of_block h)]; exact h
theorem wz_ok (win lose top has : Int) (h : Ok3 win lose top) (h1 : 0 ≤ has) (h2 : has ≤ top) : wellZ win lose top has = (wellN win.toNat lose.toNat top.toNat has.toNat, 0) := by
  unfold wellZ; rw [if_pos h, if_pos ⟨h1, h2⟩]
theorem wz_no (win lose top has : Int) (h : ¬ (Ok3 win lose top ∧ 0 ≤ has ∧ has ≤ top)) : (wellZ win lose top has).2 ≠ 0 ∧ (wellZ win lose top has).1 = (0, 0) := by
  unfold wellZ
  by_cases h1 : Ok3 win lose top
  · rw [if_pos h1, if_neg (fun h2 => h ⟨h1, h2⟩)]; exact ⟨by decide, rfl⟩
  · rw [if_neg h1]; exact ⟨by decide, rfl⟩
theorem walk_bad (win lose top has : Int) (h : ¬ (Ok3 win lose top ∧ 0 ≤ has ∧ has ≤ top)) (w : World) :
    Calls Try.prog 3 #[.int .i64 win, .int .i64 lose, .int .i64 top, .int .i64 has] w fun e w' => e = .returned (.bool true) ∧ Below w.heap.size w w' := by
  have HW := Lib.hid (fun w => well_any win lose top has w)
  obtain ⟨h1, h2⟩ := wz_no win lose top has h
  rw [h2] at HW
  have h3 : ((wellZ win lose top has).2 != 0) = true := by rw [bne_iff_ne]; exact h1
  clear h h1 h2
  generalize (wellZ win lose top has).2 = c at *
  simp only [frv] at HW
  go_enter Try.func3, Try.ntmps3
  go_wp2_with fail
  refine (alive_any _).mono ?_
  rintro e w1 ⟨rfl, hb1⟩
  go_wp2_with fail
  refine (HW.out _).mono ?_
  rintro e w2 ⟨rfl, hb2⟩
  have B2 := hb1.trans (hb2.mono hb1.size)
  clear hb1 hb2
  go_wp2_with fail
  go_ret
  exact ⟨by simp, B2.alloc B2.size _⟩
theorem walk_edge (win lose top has : Int) (h : Ok3 win lose top) (hh : has = 0 ∨ has = top) (w : World) :
    Calls Try.prog 3 #[.int .i64 win, .int .i64 lose, .int .i64 top, .int .i64 has] w fun e w' => e = .returned (.bool true) ∧ Below w.heap.size w w' := by
  have HW := Lib.hid (fun w => well_any win lose top has w)
  have ho := h
  unfold Ok3 at ho
  have he := all4_out edge_all win.toNat lose.toNat top.toNat has.toNat (by omega) (by omega) (by omega) (by omega) (by omega) (by omega) (by omega)
  rw [wz_ok win lose top has h (by omega) (by omega)] at HW
  obtain ⟨o1, o2, o3, o4, o5, o6⟩ := ho
  clear h
  rcases hh with h | h
  · subst h
    rw [if_pos (show Int.toNat 0 = 0 from rfl)] at he
    rw [of_decide_eq_true he] at HW
    simp only [frv] at HW
    clear he
    go_enter Try.func3, Try.ntmps3
    go_wp2_with fail
    refine (alive_any _).mono ?_
    rintro e w1 ⟨rfl, hb1⟩
    go_wp2_with fail
    refine (HW.out _).mono ?_
    rintro e w2 ⟨rfl, hb2⟩
    have B2 := hb1.trans (hb2.mono hb1.size)
    clear hb1 hb2
    have t0 : ¬ top = 0 := by omega
    have t1 : ((0 : Int) == 0 || (0 : Int) == top) = true := by simp
    have t3 : (0 : Int) / top = 0 := by simp
    go_wp2_with fail
    go_quiet (fail)
    go_wp2_with fail
    go_ret
    exact ⟨by simp, (B2.alloc B2.size _).drewN _⟩
  · subst h
    rw [if_neg (by omega), if_pos rfl] at he
    rw [of_decide_eq_true he] at HW
    simp only [frv] at HW
    clear he
    have t0 : ¬ has = 0 := by omega
    have t1 : (has == has) = true := by simp
    have t2 : (has == 0) = false := by simpa using t0
    have t3 : has / has = 1 := Int.ediv_self t0
    have t4 : (has == 0 || has == has) = true := by simp
    go_enter Try.func3, Try.ntmps3
    go_wp2_with fail
    refine (alive_any _).mono ?_
    rintro e w1 ⟨rfl, hb1⟩
    go_wp2_with fail
    refine (HW.out _).mono ?_
    rintro e w2 ⟨rfl, hb2⟩
    have B2 := hb1.trans (hb2.mono hb1.size)
    clear hb1 hb2
    go_wp2_with fail
    go_quiet (fail)
    go_wp2_with fail
    go_ret
    exact ⟨by simp, (B2.alloc B2.size _).drewN _⟩
theorem walk_high (win lose top has : Int) (h : Ok3 win lose top) (hh : 0 < has ∧ has < top) (ht : 8 < top) (w : World) :
    Calls Try.prog 3 #[.int .i64 win, .int .i64 lose, .int .i64 top, .int .i64 has] w fun e w' => e = .returned (.bool true) ∧ Below w.heap.size w w' := by
  have HW := Lib.hid (fun w => well_any win lose top has w)
  rw [wz_ok win lose top has h (by omega) (by omega)] at HW
  obtain ⟨h1, h2⟩ := hh
  clear h
  simp only [frv] at HW
  generalize wellN win.toNat lose.toNat top.toNat has.toNat = q at *
  obtain ⟨x1, y1⟩ := q
  have t0 : (has == 0) = false := by rw [beq_eq_false_iff_ne]; omega
  have t1 : (has == top) = false := by rw [beq_eq_false_iff_ne]; omega
  have t2 : (has == 0 || has == top) = false := by rw [t0, t1]; rfl
  go_enter Try.func3, Try.ntmps3
  go_wp2_with fail
  refine (alive_any _).mono ?_
  rintro e w1 ⟨rfl, hb1⟩
  go_wp2_with fail
  refine (HW.out _).mono ?_
  rintro e w2 ⟨rfl, hb2⟩
  have B2 := hb1.trans (hb2.mono hb1.size)
  clear hb1 hb2
  go_wp2_with fail
  go_ret
  exact ⟨by simp, B2.alloc B2.size _⟩
set_option maxRecDepth 10000 in
set_option maxHeartbeats 400000 in
theorem walk_main (win lose top has : Int) (h : Ok3 win lose top) (hh : 0 < has ∧ has < top) (ht : top ≤ 8) (w : World) :
    Calls Try.prog 3 #[.int .i64 win, .int .i64 lose, .int .i64 top, .int .i64 has] w fun e w' => e = .returned (.bool true) ∧ Below w.heap.size w w' := by
  have HW := Lib.hid (fun w => well_any win lose top has w)
  have HX := Lib.hid (fun w => well_any win lose top (has + 1) w)
  have HY := Lib.hid (fun w => well_any win lose top (has - 1) w)
  obtain ⟨h1, h2⟩ := hh
  rw [wz_ok win lose top has h (by omega) (by omega)] at HW
  rw [wz_ok win lose top (has + 1) h (by omega) (by omega)] at HX
  rw [wz_ok win lose top (has - 1) h (by omega) (by omega)] at HY
  have ho := h
  unfold Ok3 at ho
  have he := all4_out harm_all win.toNat lose.toNat top.toNat has.toNat (by omega) (by omega) (by omega) (by omega) (by omega) (by omega) (by omega)
  unfold harmB at he
  rw [if_neg (by omega)] at he
  rw [show (has + 1).toNat = has.toNat + 1 by omega] at HX
  rw [show (has - 1).toNat = has.toNat - 1 by omega] at HY
  simp only [frv] at HW HX HY
  generalize wellN win.toNat lose.toNat top.toNat has.toNat = q1 at *
  generalize wellN win.toNat lose.toNat top.toNat (has.toNat + 1) = q2 at *
  generalize wellN win.toNat lose.toNat top.toNat (has.toNat - 1) = q3 at *
  obtain ⟨x1, x2⟩ := q1
  obtain ⟨y1, y2⟩ := q2
  obtain ⟨z1, z2⟩ := q3
  simp only [Bool.and_eq_true, decide_eq_true_eq] at he
  obtain ⟨⟨⟨⟨⟨⟨⟨⟨⟨⟨⟨⟨⟨⟨⟨⟨e1, e2⟩, e3⟩, e4⟩, e5⟩, e6⟩, e7⟩, e8⟩, e9⟩, e10⟩, e11⟩, e12⟩, e13⟩, e14⟩, e15⟩, e16⟩, e17⟩ := he
  have G1 := Lib.hid (fun w => gcd10 x2 y2 w)
  have G2 := Lib.hid (fun w => gcd10 (x2 / Nat.gcd x2 y2 * y2) z2 w)
  generalize hg1 : Nat.gcd x2 y2 = g1 at *
  generalize hd : x2 / g1 * y2 = d at *
  generalize hg2 : Nat.gcd d z2 = g2 at *
  generalize hee : d / g2 * z2 = ee at *
  obtain ⟨wn, rfl⟩ : ∃ n : Nat, win = n := ⟨win.toNat, by omega⟩
  obtain ⟨ln, rfl⟩ : ∃ n : Nat, lose = n := ⟨lose.toNat, by omega⟩
  simp only [Int.toNat_natCast] at *
  have V1 : (x2 : Int) / (g1 : Int) = ((x2 / g1 : Nat) : Int) := by simp
  have V2 : (d : Int) / (g2 : Int) = ((d / g2 : Nat) : Int) := by simp
  have v1b : x2 / g1 ≤ x2 := Nat.div_le_self _ _
  have v2b : d / g2 ≤ d := Nat.div_le_self _ _
  generalize x2 / g1 = v1 at *
  generalize d / g2 = v2 at *
  have D1 : (v1 : Int) * (y2 : Int) = (d : Int) := by rw [← hd]; simp
  have D2 : (v2 : Int) * (z2 : Int) = (ee : Int) := by rw [← hee]; simp
  have Q1 : (ee : Int) / (x2 : Int) = ((ee / x2 : Nat) : Int) := by simp
  have Q2 : (ee : Int) / (y2 : Int) = ((ee / y2 : Nat) : Int) := by simp
  have Q3 : (ee : Int) / (z2 : Int) = ((ee / z2 : Nat) : Int) := by simp
  have kb1 : ee / x2 ≤ ee := Nat.div_le_self _ _
  have kb2 : ee / y2 ≤ ee := Nat.div_le_self _ _
  have kb3 : ee / z2 ≤ ee := Nat.div_le_self _ _
  generalize ee / x2 = k1 at *
  generalize ee / y2 = k2 at *
  generalize ee / z2 = k3 at *
  have P1 : ((wn : Int) + (ln : Int)) * (x1 : Int) = (((wn + ln) * x1 : Nat) : Int) := by simp
  have P2 : (wn : Int) * (y1 : Int) = ((wn * y1 : Nat) : Int) := by simp
  have P3 : (ln : Int) * (z1 : Int) = ((ln * z1 : Nat) : Int) := by simp
  generalize (wn + ln) * x1 = p1 at *
  generalize wn * y1 = p2 at *
  generalize ln * z1 = p3 at *
  have R1 : (p1 : Int) * (k1 : Int) = ((p1 * k1 : Nat) : Int) := by simp
  have R2 : (p2 : Int) * (k2 : Int) = ((p2 * k2 : Nat) : Int) := by simp
  have R3 : (p3 : Int) * (k3 : Int) = ((p3 * k3 : Nat) : Int) := by simp
  generalize p1 * k1 = r1 at *
  generalize p2 * k2 = r2 at *
  generalize p3 * k3 = r3 at *
  subst e17
  clear hg1 hd hg2 hee
  have HP := Lib.hid h
  clear h
  have t0 : (has == 0) = false := by rw [beq_eq_false_iff_ne]; omega
  have t1 : (has == top) = false := by rw [beq_eq_false_iff_ne]; omega
  have t2 : (has == 0 || has == top) = false := by rw [t0, t1]; rfl
  go_enter Try.func3, Try.ntmps3
  go_wp2_with fail
  refine (alive_any _).mono ?_
  rintro e w1 ⟨rfl, hb1⟩
  go_wp2_with fail
  refine (HW.out _).mono ?_
  rintro e w2 ⟨rfl, hb2⟩
  have B2 := hb1.trans (hb2.mono hb1.size)
  clear hb1 hb2
  go_wp2_with fail
  refine (HX.out _).mono ?_
  rintro e w3 ⟨rfl, hb3⟩
  have k1' := heap_kept hb3
  have b3 := (Below.refl w2.heap.size w2).alloc (Nat.le_refl _) (.cells #[.int .i64 x1, .int .i64 x2] 24) |>.trans (hb3.mono (by simp))
  have B3 := B2.trans (b3.mono B2.size)
  clear hb3 b3 B2
  go_wp2_with fail
  refine (HY.out _).mono ?_
  rintro e w4 ⟨rfl, hb4⟩
  have k2' := heap_kept hb4
  have b4 := (Below.refl w3.heap.size w3).alloc (Nat.le_refl _) (.cells #[.int .i64 y1, .int .i64 y2] 24) |>.trans (hb4.mono (by simp))
  have k1' := kept k1' b4
  have B4 := B3.trans (b4.mono B3.size)
  clear hb4 b4 B3
  have K1 := Lib.hid (kept_alloc k1' (.cells #[.int .i64 z1, .int .i64 z2] 24))
  have K2 := Lib.hid (kept_alloc k2' (.cells #[.int .i64 z1, .int .i64 z2] 24))
  have K3 := Lib.hid (heap_alloc_new w4 (.cells #[.int .i64 z1, .int .i64 z2] 24))
  have A0 := fun o => (pair_alloc k1' o).1
  have A1 := fun o => (pair_alloc k1' o).2
  have A2 := fun o => (pair_alloc k2' o).1
  have A3 := fun o => (pair_alloc k2' o).2
  have B5 := B4.alloc B4.size (.cells #[.int .i64 z1, .int .i64 z2] 24)
  clear k1' k2' B4
  obtain ⟨a0, a1, _, _⟩ := pair_cells K1.out
  obtain ⟨a2, a3, _, _⟩ := pair_cells K2.out
  obtain ⟨a4, a5, _, _⟩ := pair_cells K3.out
  go_wp2_with fail
  go_quiet ((go_at_call 10; exact Calls.quiet_of (G1.out _)))
  go_wp2_with fail
  go_quiet ((go_at_call 10; exact quiet_add (G2.out _)))
  go_wp2_with fail
  have hwl : (wn : Int) + (ln : Int) ≤ 18 := by have := HP.out; unfold Ok3 at this; omega
  go_quiet (fail)
  go_wp2_with fail
  go_ret
  exact ⟨by simp [R1, R2, R3], ((B5.drewN _).drewN _).drewN _⟩
theorem walk (win lose top has : Int) (w : World) (w0 : (Lit.int .i64 win).wf = true) (w1 : (Lit.int .i64 lose).wf = true) (w2 : (Lit.int .i64 top).wf = true) (w3 : (Lit.int .i64 has).wf = true) :
    Calls Try.prog 3 #[.int .i64 win, .int .i64 lose, .int .i64 top, .int .i64 has] w fun e w' => e = .returned (.bool true) ∧ Below w.heap.size w w' := by
  by_cases h : Ok3 win lose top ∧ 0 ≤ has ∧ has ≤ top
  · by_cases hh : has = 0 ∨ has = top
    · exact walk_edge win lose top has h.1 hh w
    · by_cases ht : top ≤ 8
      · exact walk_main win lose top has h.1 (by omega) ht w
      · exact walk_high win lose top has h.1 (by omega) (by omega) w
  · exact walk_bad win lose top has h w
end Go.Proofs.Ytkppkfbgolmonaa.ruinHarmonic
