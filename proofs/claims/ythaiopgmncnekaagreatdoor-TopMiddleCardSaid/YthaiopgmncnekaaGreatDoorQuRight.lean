/- quant.Right: true of what is right. Condition: it is right. -/
import Derived.Test.YthaiopgmncnekaaGreatDoorQuCount
set_option linter.unusedSimpArgs false
set_option linter.unusedVariables false
set_option maxRecDepth 20000
namespace Go.Proofs.YthaiopgmncnekaaGreatDoor.Qu
open Go.RowKit
/-- A summary that is right. -/
structure RightP (p : Int) (l : List Rk) : Prop where
  lo : 1 ≤ p
  hi : p ≤ 100
  len : l.length ≤ 400
  gap : ∀ r ∈ l, 1 ≤ r.Gap
  more : ∀ r ∈ l, 0 ≤ r.More ∧ r.More ≤ 1099511627776
  sum : cnt l ≤ 1099511627776
  up : ∀ k, k + 1 < l.length → (l.getD k default).N ≤ (l.getD (k + 1) default).N
  few : ∀ r ∈ l, r.Gap + r.More ≤ max (2 * cnt l / p) 1
theorem gap_le {l : List Rk} (h : ∀ r ∈ l, 1 ≤ r.Gap) (k : Nat) (hk : k < l.length) : (l.getD k default).Gap ≤ cnt l := by
  have h1 := cnt_succ l k hk
  have h2 := cnt_take_le h k
  have h3 := cnt_take_le h (k + 1)
  omega
theorem max2_run (a b : Int) (w : World) : (Builtin.max_ #[3, 3] 3 #[.int .i64 a, .int .i64 b]).run Tryz.prog w = .ok (.int .i64 (max a b)) w := by
  have h2 : ∀ (x y : Int) (w : World), (Builtin.max2 (.int .i64 x) (.int .i64 y)).run Tryz.prog w = .ok (.int .i64 (max x y)) w := fun x y w => by
    have e : (if x < y then y else x) = max x y := by split <;> omega
    simp [Builtin.max2, e]
  simp [Builtin.max_, List.foldlM, h2, Sem.run_bind, Result.andThen]
set_option maxHeartbeats 1600000 in
set_option maxRecDepth 20000 in
theorem right_any (p : Int) (a : Option Addr) (n cap base : Nat) (l : List Rk) (w : World) (h : Own w base (.slice a n cap) l) (hn : l.length = n) (hR : RightP p l) :
    Calls Tryz.prog 14 #[.int .i64 p, .slice a n cap] w fun e w' => e = .returned (.bool true) ∧ Below w.heap.size w w' := by
  obtain ⟨p1, p2, p3, p4, p5, p6, p7, p8⟩ := hR
  have HT : Hid (∀ k, 0 ≤ cnt (l.take k) ∧ cnt (l.take k) ≤ cnt l) := fun k => cnt_take_le p4 k
  have HG := Lib.hid p4
  have HGL : Hid (∀ k, k < l.length → (l.getD k default).Gap ≤ cnt l) := fun k hk => gap_le p4 k hk
  have HM := Lib.hid p5
  have HU := Lib.hid p7
  have HF := Lib.hid p8
  have HO := Lib.hid h
  have HN := Lib.hid hn
  have HE : Hid (l.take n = l) := List.take_of_length_le (by omega)
  have HC : Hid (0 ≤ cnt l ∧ cnt l ≤ 1099511627776) := by have := cnt_take_le p4 0; exact ⟨by omega, p6⟩
  have hn4 : n ≤ 400 := by omega
  have t1 : decide (p < 1) = false := decide_eq_false (by omega)
  have t2 : decide (100 < p) = false := decide_eq_false (by omega)
  have t3 : decide ((400 : Int) < (n : Int)) = false := decide_eq_false (by omega)
  clear h hn p3 p4 p5 p6 p7 p8
  go_enter Tryz.func14, Tryz.ntmps14
  go_wp2_with fail
  clear t1 t2 t3
  go_loopw [23, 5] (fun iv nv wr => ∃ k : Nat, k ≤ n ∧ iv = .int .i64 k ∧ nv = .int .i64 (cnt (l.take k)) ∧ Hid (Below w.heap.size w wr)) (fun iv _ _ => n - (intOf iv).toNat)
  case atStart => exact ⟨0, Nat.zero_le _, rfl, rfl, Below.refl _ _⟩
  case round =>
    obtain ⟨k, hk, rfl, rfl, HB⟩ := hrel
    by_cases hkn : k < n
    · obtain ⟨g, rfl, -, hgs, hcell⟩ := (HO.out.below HB.out (Nat.le_refl _)).at (show 0 < n by omega)
      obtain ⟨c0, c1, c2⟩ := hcell k hkn
      have hkl : k < l.length := by rw [HN.out]; exact hkn
      have HS : Hid (cnt (l.take (k + 1)) = cnt (l.take k) + (l.getD k default).Gap) := cnt_succ l k hkl
      have b1 := HT.out k
      have b2 := HT.out (k + 1)
      have b3 := HC.out
      have b4 := HG.out _ (getD_mem l k hkl)
      have b5 := HM.out _ (getD_mem l k hkl)
      have b6 := HGL.out k hkl
      have e1 := HS.out
      have hw : IntKind.i64.wrap (cnt (l.take k) + (l.getD k default).Gap) = cnt (l.take (k + 1)) := by rw [IntKind.wrap_i64, ← e1]; omega
      obtain ⟨s', hs'⟩ : ∃ s', cnt (l.take (k + 1)) = s' := ⟨_, rfl⟩
      have t0 : decide ((1099511627776 : Int) < s') = false := decide_eq_false (by omega)
      have t1 : decide ((l.getD k default).Gap < 1) = false := decide_eq_false (by omega)
      have t2 : decide ((1099511627776 : Int) < (l.getD k default).Gap) = false := decide_eq_false (by omega)
      have t3 : decide ((l.getD k default).More < 0) = false := decide_eq_false (by omega)
      have t4 : decide ((1099511627776 : Int) < (l.getD k default).More) = false := decide_eq_false (by omega)
      clear b1 b2 b3 b4 b5 b6 e1 HS
      rw [hs'] at hw
      have HS' := Lib.hid hs'
      clear hs'
      have hbs := HB.out.size
      rcases Nat.eq_zero_or_pos k with h0 | h0
      · subst h0
        clear hcell
        generalize cnt (l.take 0) = s at *
        generalize l.getD 0 default = r at *
        go_wp2_with fail
        go_quiet (fail)
        go_wp2_with fail
        go_roundw
        case rel => exact ⟨1, by omega, by go_num, by rw [HS'.out], (HB.out.alloc hbs _).drewN _⟩
        case measure => simp [intOf]; omega
      · obtain ⟨c3, -, -⟩ := hcell (k - 1) (by omega)
        have hu := HU.out (k - 1) (by omega)
        rw [show k - 1 + 1 = k by omega] at hu
        have t5 : decide ((l.getD k default).N < (l.getD (k - 1) default).N) = false := decide_eq_false (by omega)
        have hk1 : IntKind.i64.wrap ((k : Int) - 1) = ((k - 1 : Nat) : Int) := by rw [IntKind.wrap_i64]; omega
        have c3' : (wr.alloc (.cells #[.int .i64 (l.getD k default).N, .int .i64 (l.getD k default).Gap, .int .i64 (l.getD k default).More] 43)).cell? ⟨g, (k - 1) * 3, none⟩ = some (.int .i64 (l.getD (k - 1) default).N) := (World.cell?_of_block (Below.heap_alloc wr _ g hgs)).trans c3
        have t6 : decide ((0 : Int) < (k : Int)) = true := decide_eq_true (by omega)
        have p1 : (0 ≤ ((k - 1 : Nat) : Int) ∧ ((k - 1 : Nat) : Int) < (n : Int)) = True := eq_true ⟨by omega, by omega⟩
        clear hcell hu hkl c3
        generalize cnt (l.take k) = s at *
        generalize (l.getD (k - 1) default).N = N0 at *
        generalize hk0 : k - 1 = k0 at *
        have hkk : (k : Int) - 1 = (k0 : Int) := by omega
        have hk0n : k0 < n := by omega
        clear hk0 hk1
        generalize l.getD k default = r at *
        go_wp2_with fail
        go_quiet (fail)
        go_wp2_with fail
        go_roundw
        case rel => exact ⟨k + 1, by omega, by go_num, by rw [HS'.out], (HB.out.alloc hbs _).drewN _⟩
        case measure => simp [intOf]; omega
    · obtain rfl : k = n := by omega
      rw [HE.out]
      have hC := HC.out
      have hw : IntKind.i64.wrap (2 * cnt l) = 2 * cnt l := by rw [IntKind.wrap_i64]; omega
      have hd : IntKind.i64.wrap ((2 * cnt l).tdiv p) = 2 * cnt l / p := by
        rw [Int.tdiv_eq_ediv_of_nonneg (by omega), IntKind.wrap_i64]
        have := Int.ediv_le_self (a := 2 * cnt l) p (by omega)
        have := Int.ediv_nonneg (a := 2 * cnt l) (b := p) (by omega) (by omega)
        omega
      have HGM : Hid (∀ j, j < k → (l.getD j default).Gap + (l.getD j default).More ≤ max (2 * cnt l / p) 1 ∧ 1 ≤ (l.getD j default).Gap ∧ (l.getD j default).Gap ≤ 1099511627776 ∧ 0 ≤ (l.getD j default).More ∧ (l.getD j default).More ≤ 1099511627776) := fun j hj => by
        have hm := getD_mem l j (by rw [HN.out]; exact hj)
        have h1 := HGL.out j (by rw [HN.out]; exact hj)
        exact ⟨HF.out _ hm, HG.out _ hm, by omega, HM.out _ hm⟩
      have hp0 : decide (p = 0) = false := decide_eq_false (by omega)
      have hp1 : (p == 0) = false := by rw [beq_eq_false_iff_ne]; omega
      have emax := fun (w : World) => max2_run (2 * cnt l / p) 1 w
      have hdv : p ≠ 0 := by omega
      clear hC HF HGL HT HC
      generalize max (2 * cnt l / p) 1 = M at *
      generalize 2 * cnt l / p = M0 at *
      obtain ⟨S2, hS2⟩ : ∃ S2, 2 * cnt l = S2 := ⟨_, rfl⟩
      rw [hS2] at hd
      have hw2 : IntKind.i64.wrap (2 * cnt l) = S2 := by rw [hw, hS2]
      clear hw hS2
      have HW2 := Lib.hid hw2
      have HD := Lib.hid hd
      have HEM := Lib.hid emax
      have HP1 := Lib.hid hp1
      have HP0 := Lib.hid hp0
      clear hw2 hd emax hp0 hp1
      go_wp2_with fail
      go_loopw [70] (fun iv wr => ∃ j : Nat, j ≤ k ∧ iv = .int .i64 j ∧ Hid (Below w.heap.size w wr)) (fun iv _ => k - (intOf iv).toNat)
      case atStart => exact ⟨0, Nat.zero_le _, rfl, HB.out⟩
      case round =>
        clear HB
        obtain ⟨j, hj, rfl, HB⟩ := hrel
        by_cases hjn : j < k
        · obtain ⟨g, rfl, -, hgs, hcell⟩ := (HO.out.below HB.out (Nat.le_refl _)).at (show 0 < k by omega)
          obtain ⟨c0, c1, c2⟩ := hcell j hjn
          obtain ⟨b1, b2, b3, b4, b5⟩ := HGM.out j hjn
          have t1 : decide (M < (l.getD j default).Gap + (l.getD j default).More) = false := decide_eq_false (by omega)
          have hbs := HB.out.size
          clear hcell b1
          generalize l.getD j default = r at *
          obtain ⟨GM, hGM⟩ : ∃ GM, r.Gap + r.More = GM := ⟨_, rfl⟩
          have hgm : IntKind.i64.wrap (r.Gap + r.More) = GM := by rw [IntKind.wrap_i64]; omega
          rw [hGM] at t1
          clear hGM
          have hw2 := HW2.out
          have hd := HD.out
          have emax := HEM.out
          have hp0 := HP0.out
          have hp1 := HP1.out
          have hpp : (0 : Int) < p := by omega
          go_wp2_with fail
          go_quiet (fail)
          go_wp2_with fail
          go_roundw
          case rel => exact ⟨j + 1, by omega, by go_num, (HB.out.alloc hbs _).drewN _⟩
          case measure => simp [intOf]; omega
        · obtain rfl : j = k := by omega
          go_wp2_with fail
          go_ret
          exact ⟨rfl, HB.out⟩
end Go.Proofs.YthaiopgmncnekaaGreatDoor.Qu
