/- The walk of StatsShift. No condition beyond rows within the reach. -/
import Derived.Test.YtdlnjalkbgkhdaaAl
import Derived.Test.YtdlnjalkbgkhdaaShL
import Derived.Test.YtdlnjalkbgkhdaaClone
import Derived.OneCell
set_option linter.unusedSimpArgs false
set_option linter.unusedVariables false
namespace Go.Proofs.Ytdlnjalkbgkhdaa.statsShift
open Go.RowKit Go.Proofs.Ytdlnjalkbgkhdaa
set_option maxHeartbeats 800000 in
theorem sp_good (v : Value) (zs : List Int) (w : World) (h : Rd w v zs) (hok : OkL zs) :
    Calls Try.prog 14 #[v] w fun e w' => e = .returned (.tuple #[.int .i64 (spr zs), .bool true]) ∧ Below w.heap.size w w' := by
  have HO := Lib.hid (of_good v zs w h hok)
  have HS := Lib.hid (fun w1 => spread_any _ _ _ w1 (right_of hok.2 (by have := hok.1; omega)))
  rw [spr_eq] at HS
  unfold mv at HO HS
  obtain ⟨n, hn⟩ : ∃ n, zs.length = n := ⟨_, rfl⟩
  obtain ⟨a, cap, rfl, -⟩ := h.open
  rw [hn] at HO HS ⊢
  generalize spr zs = s at *
  generalize sm zs = s1 at *
  generalize sq zs = q1 at *
  clear h hok hn
  go_enter Try.func14, Try.ntmps14
  go_wp2_with fail
  refine HO.out.mono ?_
  rintro e w5 ⟨rfl, hb5⟩
  obtain ⟨w6, hw6⟩ : ∃ w6, w5.alloc (.cells #[.int .i64 (n : Int), .int .i64 s1, .int .i64 q1] 28) = w6 := ⟨_, rfl⟩
  have HB6 : Hid (Below w.heap.size w w6) := by show Below _ _ _; rw [← hw6]; exact hb5.alloc hb5.size _
  have HC := Lib.hid (HS.out w6)
  have HW6 := Lib.hid hw6
  clear hb5 hw6
  go_wp2_with fail
  rw [HW6.out]
  refine HC.out.mono ?_
  rintro e w7 ⟨rfl, hb7⟩
  have HB7 := Lib.hid (HB6.out.trans (hb7.mono HB6.out.size))
  clear hb7 HC HS HO HW6
  go_wp2_with fail
  go_ret2
  exact ⟨rfl, HB7.out⟩
set_option maxHeartbeats 800000 in
theorem sp_bad (v : Value) (zs : List Int) (w : World) (h : Rd w v zs) (hok : ¬ OkL zs) :
    Calls Try.prog 14 #[v] w fun e w' => e = .returned (.tuple #[.int .i64 0, .bool false]) ∧ Below w.heap.size w w' := by
  have HO := Lib.hid (of_bad v zs w h hok)
  have HS : Hid (∀ w1, Calls Try.prog 11 #[mv 0 0 0] w1 fun e w' => e = .returned (.tuple #[.int .i64 0, .int .i64 0]) ∧ Below w1.heap.size w1 w') := fun w1 => spread_any 0 0 0 w1 right_zero
  unfold mv at HO HS
  obtain ⟨a, cap, rfl, -⟩ := h.open
  clear h hok
  go_enter Try.func14, Try.ntmps14
  go_wp2_with fail
  refine HO.out.mono ?_
  rintro e w5 ⟨rfl, hb5⟩
  obtain ⟨w6, hw6⟩ : ∃ w6, w5.alloc (.cells #[.int .i64 0, .int .i64 0, .int .i64 0] 28) = w6 := ⟨_, rfl⟩
  have HB6 : Hid (Below w.heap.size w w6) := by show Below _ _ _; rw [← hw6]; exact hb5.alloc hb5.size _
  have HC := Lib.hid (HS.out w6)
  have HW6 := Lib.hid hw6
  clear hb5 hw6
  go_wp2_with fail
  rw [HW6.out]
  refine HC.out.mono ?_
  rintro e w7 ⟨rfl, hb7⟩
  have HB7 := Lib.hid (HB6.out.trans (hb7.mono HB6.out.size))
  clear hb7 HC HS HO HW6
  go_wp2_with fail
  go_ret2
  exact ⟨rfl, HB7.out⟩
theorem sp_any (v : Value) (zs : List Int) (w : World) (h : Rd w v zs) :
    Calls Try.prog 14 #[v] w fun e w' => ∃ (s : Int) (b : Bool), (b = true → OkL zs ∧ s = spr zs) ∧ e = .returned (.tuple #[.int .i64 s, .bool b]) ∧ Below w.heap.size w w' := by
  by_cases hk : OkL zs
  · refine (sp_good v zs w h hk).mono ?_
    rintro e w' ⟨rfl, hb⟩
    exact ⟨_, true, (fun _ => ⟨hk, rfl⟩), rfl, hb⟩
  · refine (sp_bad v zs w h hk).mono ?_
    rintro e w' ⟨rfl, hb⟩
    exact ⟨0, false, (fun h => by cases h), rfl, hb⟩
theorem max4_run (a b c d : Int) (w : World) : (Builtin.max_ #[3, 3, 3, 3] 3 #[.int .i64 a, .int .i64 b, .int .i64 c, .int .i64 d]).run Try.prog w = .ok (.int .i64 (max (max (max a b) c) d)) w := by
  have h2 : ∀ (x y : Int) (w : World), (Builtin.max2 (.int .i64 x) (.int .i64 y)).run Try.prog w = .ok (.int .i64 (max x y)) w := fun x y w => by
    have e : (if x < y then y else x) = max x y := by split <;> omega
    simp [Builtin.max2, e]
  simp [Builtin.max_, List.foldlM, h2, Sem.run_bind, Result.andThen]
set_option maxHeartbeats 1600000 in
theorem run (v : Value) (zs : List Int) (b t : Int) (w : World) (h : Rd w v zs) (hr : zs.length * 8 ≤ 140737488351232) :
    Calls Try.prog 5 #[v, .int .i64 b, .int .i64 t] w fun e w' => e = .returned (.bool true) ∧ Below w.heap.size w w' := by
  have HR := Lib.hid h
  have HCL := Lib.hid (fun w1 hb1 => clone_any v zs w1 (HR.out.below (w' := w1) hb1 (Nat.le_refl _)) (by omega))
  have HSP := Lib.hid (fun w1 hb1 => sp_any v zs w1 (HR.out.below (w' := w1) hb1 (Nat.le_refl _)))
  obtain ⟨a, cap, he1, -⟩ := h.open
  obtain ⟨n, hn⟩ : ∃ n, zs.length = n := ⟨_, rfl⟩
  have HN := Lib.hid hn
  rw [hn] at he1 hr HCL
  obtain ⟨nb, hnb⟩ : ∃ x, IntKind.i64.wrap (-b) = x := ⟨_, rfl⟩
  obtain ⟨nt, hnt⟩ : ∃ x, IntKind.i64.wrap (-t) = x := ⟨_, rfl⟩
  have emax := fun (w : World) => max4_run b nb t nt w
  obtain ⟨mx, hmx⟩ : ∃ mx, max (max (max b nb) t) nt = mx := ⟨_, rfl⟩
  rw [hmx] at emax
  have hnN : n ≤ 9223372036854775000 := by omega
  subst he1
  clear h hn hr hmx
  by_cases hm : 30 < mx
  · have t1 : decide (30 < mx) = true := decide_eq_true hm
    go_enter Try.func5, Try.ntmps5
    go_wp2_with fail
    refine (alive_any w).mono ?_
    rintro e w1 ⟨rfl, hb1⟩
    have HB1 := Lib.hid hb1
    clear hb1 hm
    go_wp2_with fail
    go_ret
    exact ⟨rfl, HB1.out⟩
  have t1 : decide (30 < mx) = false := decide_eq_false hm
  go_enter Try.func5, Try.ntmps5
  go_wp2_with fail
  refine (alive_any w).mono ?_
  rintro e w1 ⟨rfl, hb1⟩
  have HB1 := Lib.hid hb1
  have HC := Lib.hid (HCL.out w1 hb1)
  clear hb1 hm
  go_wp2_with fail
  refine HC.out.mono ?_
  rintro e w2 ⟨v2, rfl, ho2, hb2⟩
  have hb2' := HB1.out.trans (hb2.mono HB1.out.size)
  have HB2 := Lib.hid hb2'
  have HC := Lib.hid (HCL.out w2 hb2')
  have HO2 := Lib.hid (own_base ho2 HB1.out.size)
  clear hb2 hb2' ho2
  go_wp2_with fail
  refine HC.out.mono ?_
  rintro e w3 ⟨v3, rfl, ho3, hb3⟩
  have HB3 := Lib.hid (HB2.out.trans (hb3.mono HB2.out.size))
  have HO3 := Lib.hid (own_base ho3 HB2.out.size)
  have HOx := HO2
  have HO2 := Lib.hid (own_below HO2.out hb3 (Nat.le_refl _))
  have HAP : Hid (0 < n → ∃ g2 c2 g3 c3, v2 = .slice (some ⟨g2, 0, none⟩) n c2 ∧ v3 = .slice (some ⟨g3, 0, none⟩) n c3 ∧ g2 ≠ g3) := fun h0 => by
    obtain ⟨g2, c2, h2, -, -, -, l2, -⟩ := own_open HO2.out h0
    obtain ⟨g3, c3, h3, -, -, l3, -, -⟩ := own_open ho3 h0
    refine ⟨g2, c2, g3, c3, h2, h3, ?_⟩
    obtain ⟨g2', c2', h2', -, -, -, l2', -⟩ := own_open HOx.out h0
    rw [h2'] at h2
    injection h2 with h2 _ _
    injection h2 with h2
    injection h2 with h2 _ _
    omega
  clear hb3 ho3 HC HCL HOx
  obtain ⟨a2, cap2, rfl, -⟩ := (Rd.own HO2.out).open
  obtain ⟨a3, cap3, rfl, -⟩ := (Rd.own HO3.out).open
  rw [HN.out] at HO2 HO3 HAP ⊢
  go_wp2_with fail
  go_loopw [33] (fun iv wr => ∃ k : Nat, k ≤ n ∧ iv = .int .i64 k ∧ Hid (wr.ownsRow w.heap.size 3 1 (.slice a2 n cap2) n ((part (fun y => IntKind.i64.wrap (y + b)) zs k).map (Value.int .i64))) ∧ Hid (wr.ownsRow w.heap.size 3 1 (.slice a3 n cap3) n ((part (fun y => IntKind.i64.wrap (y * t)) zs k).map (Value.int .i64))) ∧ Hid (Below w.heap.size w wr)) (fun iv _ => n - (intOf iv).toNat)
  case atStart => exact ⟨0, Nat.zero_le _, rfl, by rw [part_zero]; exact HO2.out, by rw [part_zero]; exact HO3.out, HB3.out⟩
  case round =>
    clear HO2 HO3 HB3
    obtain ⟨k, hk, rfl, HO2, HO3, HB⟩ := hrel
    by_cases hkn : k < n
    · obtain ⟨g2, c2, g3, c3, e2, e3, hne⟩ := HAP.out (by omega)
      injection e2 with e2 _ e2'
      injection e3 with e3 _ e3'
      subst e2 e3 e2' e3'
      have l2 := own_lt HO2.out
      have l3 := own_lt HO3.out
      have c1 := own_get HO2.out k hkn
      have c3 := own_get HO3.out k hkn
      rw [part_get _ _ _ (by rw [HN.out]; exact hkn)] at c1 c3
      have f1 : wr.frozen? ⟨g2, k, none⟩ = false := HO2.out.frozenAt k
      have st1 := part_set (fun y => IntKind.i64.wrap (y + b)) zs k (by rw [HN.out]; exact hkn)
      have st2 := part_set (fun y => IntKind.i64.wrap (y * t)) zs k (by rw [HN.out]; exact hkn)
      obtain ⟨y, hy⟩ : ∃ y, zs.getD k 0 = y := ⟨_, rfl⟩
      rw [hy] at c1 c3 st1 st2
      obtain ⟨y1, hy1⟩ : ∃ y1, IntKind.i64.wrap (y + b) = y1 := ⟨_, rfl⟩
      obtain ⟨y2, hy2⟩ : ∃ y1, IntKind.i64.wrap (y * t) = y1 := ⟨_, rfl⟩
      have st1' : (part (fun y => IntKind.i64.wrap (y + b)) zs k).set k y1 = part (fun y => IntKind.i64.wrap (y + b)) zs (k + 1) := by rw [← hy1]; exact st1
      have st2' : (part (fun y => IntKind.i64.wrap (y * t)) zs k).set k y2 = part (fun y => IntKind.i64.wrap (y * t)) zs (k + 1) := by rw [← hy2]; exact st2
      have oA := own_set HO2.out k y1
      have oB := ownsRow_setCell_other HO3.out (a := ⟨g2, k, none⟩) (by simpa [Value.ownBlock] using Ne.symm hne) (.int .i64 y1)
      have f3 : (wr.setCell ⟨g2, k, none⟩ (.int .i64 y1)).frozen? ⟨g3, k, none⟩ = false := oB.frozenAt k
      have c3' := own_get oB k hkn
      rw [part_get _ _ _ (by rw [HN.out]; exact hkn), hy] at c3'
      clear hy
      have oC := own_set oB k y2
      have oD := ownsRow_setCell_other oA (a := ⟨g3, k, none⟩) (by simpa [Value.ownBlock] using hne) (.int .i64 y2)
      rw [st2'] at oC
      rw [st1'] at oD
      have HC' := Lib.hid oC
      have HD := Lib.hid oD
      have HB' : Hid (Below w.heap.size w ((wr.setCell ⟨g2, k, none⟩ (.int .i64 y1)).setCell ⟨g3, k, none⟩ (.int .i64 y2))) := (HB.out.setCell (by exact l2.1) _).setCell (by exact l3.1) _
      have p1 : (0 ≤ (k : Int) ∧ (k : Int) < (n : Int)) = True := eq_true ⟨by omega, by omega⟩
      have l2' := l2.2
      have l3' := l3.2
      clear st1 st2 st1' st2' oA oB oC oD l2 l3
      go_wp2_with fail
      go_roundw
      case rel => exact ⟨k + 1, by omega, by go_num, HD.out, HC'.out, HB'.out⟩
      case measure => simp [intOf]; omega
    · obtain rfl : k = n := by omega
      rw [part_all _ _ _ HN.out] at HO2 HO3
      have HC1 := Lib.hid (HSP.out wr HB.out)
      go_wp2_with fail
      refine HC1.out.mono ?_
      rintro e w4 ⟨x1, b1, hb1, rfl, hw4⟩
      have HB4 := Lib.hid (HB.out.trans (hw4.mono HB.out.size))
      have HO2 := Lib.hid (own_below HO2.out hw4 (Nat.le_refl _))
      have HO3 := Lib.hid (own_below HO3.out hw4 (Nat.le_refl _))
      have HT1 := Lib.hid hb1
      have HC2 := Lib.hid (sp_any _ _ w4 (Rd.own HO2.out))
      clear hw4 hb1 HC1
      go_wp2_with fail
      refine HC2.out.mono ?_
      rintro e w5 ⟨x2, b2, hb2, rfl, hw5⟩
      have HB5 := Lib.hid (HB4.out.trans (hw5.mono HB4.out.size))
      have HO3 := Lib.hid (own_below HO3.out hw5 (Nat.le_refl _))
      have HT2 := Lib.hid hb2
      have HC3 := Lib.hid (sp_any _ _ w5 (Rd.own HO3.out))
      clear hw5 hb2 HC2
      go_wp2_with fail
      refine HC3.out.mono ?_
      rintro e w6 ⟨x3, b3, hb3, rfl, hw6⟩
      have HB6 := Lib.hid (HB5.out.trans (hw6.mono HB5.out.size))
      have HT3 := Lib.hid hb3
      clear hw6 hb3 HC3 HO2 HO3 HSP
      obtain ⟨z1, hz1⟩ : ∃ z, IntKind.i64.wrap (x1 * t) = z := ⟨_, rfl⟩
      obtain ⟨z2, hz2⟩ : ∃ z, IntKind.i64.wrap (z1 * t) = z := ⟨_, rfl⟩
      have HE1 : Hid (b1 = true → b2 = true → (x2 == x1) = true) := fun h1 h2 => by
        obtain ⟨o1, rfl⟩ := HT1.out h1
        obtain ⟨o2, rfl⟩ := HT2.out h2
        rw [beq_iff_eq]
        exact shift_eq b o1 o2
      have HE2 : Hid (b1 = true → b3 = true → (x3 == z2) = true) := fun h1 h2 => by
        obtain ⟨o1, rfl⟩ := HT1.out h1
        obtain ⟨o2, rfl⟩ := HT3.out h2
        rw [beq_iff_eq, ← hz2, ← hz1]
        exact scale_eq t o2
      clear HT1 HT2 HT3
      cases b1 with
      | false =>
        go_wp2_with fail
        go_ret
        exact ⟨rfl, HB6.out⟩
      | true =>
        have HE1 := Lib.hid (HE1.out rfl)
        have HE2 := Lib.hid (HE2.out rfl)
        cases b2 with
        | false =>
          cases b3 with
          | false =>
            go_wp2_with fail
            go_ret
            exact ⟨rfl, HB6.out⟩
          | true =>
            have q2 := HE2.out rfl
            go_wp2_with fail
            go_ret
            exact ⟨rfl, HB6.out⟩
        | true =>
          have q1 := HE1.out rfl
          cases b3 with
          | false =>
            go_wp2_with fail
            go_ret
            exact ⟨rfl, HB6.out⟩
          | true =>
            have q2 := HE2.out rfl
            go_wp2_with fail
            go_ret
            exact ⟨rfl, HB6.out⟩
theorem walk (a0 : Option Addr) (len0 cap0 : Nat) (z0 : List Int) (b t : Int) (w : World) (w0 : IsRow .i64 w a0 len0 cap0 z0) (r0 : len0 * 8 ≤ 140737488351232) (w1 : (Lit.int .i64 b).wf = true) (w2 : (Lit.int .i64 t).wf = true) :
    Calls Try.prog 5 #[.slice a0 len0 cap0, .int .i64 b, .int .i64 t] w fun e w' => e = .returned (.bool true) ∧ Below w.heap.size w w' := by
  obtain ⟨h1, -⟩ := w0.rd
  have hl : (z0.take len0).length = len0 := by
    obtain ⟨a', c', he, -⟩ := h1.open
    injection he with _ h5 _
    exact h5.symm
  exact run _ _ b t w h1 (by rw [hl]; exact r0)
end Go.Proofs.Ytdlnjalkbgkhdaa.statsShift
