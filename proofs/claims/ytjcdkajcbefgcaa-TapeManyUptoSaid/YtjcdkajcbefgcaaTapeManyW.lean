/- The walk of TapeMany, of what is no longer than a machine's. -/
import Derived.Test.YtjcdkajcbefgcaaAl
import Derived.Test.YtjcdkajcbefgcaaConcatI
import Derived.Test.YtjcdkajcbefgcaaEqual
set_option linter.unusedSimpArgs false
set_option linter.unusedVariables false
namespace Go.Proofs.Ytjcdkajcbefgcaa.tapeMany
open Go.RowKit Go.Proofs.Ytjcdkajcbefgcaa
theorem rowB_nil {w : World} {a : Option Addr} {len cap : Nat} {z : List Bool} (h : IsRowB w a len cap z) : a = none → len = 0 ∧ cap = 0 := fun e => by
  rcases h with ⟨_, h1, h2, _⟩ | ⟨x, h1, _⟩
  · exact ⟨h1, h2⟩
  · rw [e] at h1; cases h1
theorem row_nil {w : World} {a : Option Addr} {len cap : Nat} {z : List Int} (h : IsRow .i64 w a len cap z) : a = none → len = 0 ∧ cap = 0 := fun e => by
  rcases h with ⟨_, h1, h2, _⟩ | ⟨x, h1, _⟩
  · exact ⟨h1, h2⟩
  · rw [e] at h1; cases h1
theorem rd_nil {w : World} {a : Option Addr} {n c : Nat} {z : List Int} (h : Rd w (.slice a n c) z) (hp : 0 < z.length) : a ≠ none := by
  obtain ⟨a', c', he, h1, h2, h3⟩ := h
  cases he
  rcases h3 with rfl | ⟨b, off, rfl, _⟩
  · simp at hp
  · simp
set_option maxHeartbeats 1600000 in
theorem walk (a : Option Addr) (len cap : Nat) (z : List Bool) (a2 : Option Addr) (len2 cap2 : Nat) (z2 : List Int) (a3 : Option Addr) (len3 cap3 : Nat) (z3 : List Int) (w : World)
    (h : IsRowB w a len cap z) (hr : len ≤ 1048576) (h2 : IsRow .i64 w a2 len2 cap2 z2) (hr2 : len2 ≤ 1048576) (h3 : IsRow .i64 w a3 len3 cap3 z3) (hr3 : len3 ≤ 1048576) :
    Calls Try.prog 6 #[.slice a len cap, .slice a2 len2 cap2, .slice a3 len3 cap3] w fun e w' => e = .returned (.bool true) ∧ Below w.heap.size w w' := by
  have HN2 := Lib.hid (row_nil h2)
  have HN3 := Lib.hid (row_nil h3)
  have hrd := h.rd
  have hrd2 := h2.rd.1
  have hrd3 := h3.rd.1
  clear h h2 h3
  obtain ⟨l1, m1, m1', -⟩ := hrd.app
  obtain ⟨l2, m2, m2', -⟩ := hrd2.app
  obtain ⟨l3, m3, m3', -⟩ := hrd3.app
  generalize z2.take len2 = xs at *
  generalize z3.take len3 = ys at *
  have HT := Lib.hid hrd
  have HX := Lib.hid hrd2
  have HY := Lib.hid hrd3
  clear hrd hrd2 hrd3
  have HA := Lib.hid (many_append ys xs z)
  have HIN := Lib.hid (fun q hq => many_in xs z q hq)
  go_enter Try.func6, Try.ntmps6
  go_wp2_with fail
  refine (alive_any _).mono ?_
  rintro e w1 ⟨rfl, hb1⟩
  have HT1 := Lib.hid (HT.out.below hb1 (Nat.le_refl _))
  have HX1 := Lib.hid (HX.out.below hb1 (Nat.le_refl _))
  have HY1 := Lib.hid (HY.out.below hb1 (Nat.le_refl _))
  have HB1 := Lib.hid hb1
  clear hb1
  go_wp2_with fail
  have hc1 : (w1.alloc (.cells #[.slice a2 len2 cap2, .slice a3 len3 cap3] 23)).cell? ⟨w1.heap.size, 0, none⟩ = some (.slice a2 len2 cap2) := cell_of_row _ _ 0 _ _ _ (heap_alloc_new w1 _)
  have hc2 : (w1.alloc (.cells #[.slice a2 len2 cap2, .slice a3 len3 cap3] 23)).cell? ⟨w1.heap.size, 1, none⟩ = some (.slice a3 len3 cap3) := cell_of_row _ _ 1 _ _ _ (heap_alloc_new w1 _)
  refine (concati_any w1.heap.size len2 cap2 len3 cap3 a2 a3 _ _ _ (HX1.out.alloc _) (HY1.out.alloc _) HN2.out HN3.out hc1 hc2 (by simp) (by omega)).mono ?_
  rintro e w2 ⟨hb2, v2, rfl, hv2⟩
  have b2 := ((Below.refl w1.heap.size w1).alloc (Nat.le_refl _) _).trans (hb2.mono (by simp))
  have HB2 := Lib.hid (HB1.out.trans (b2.mono HB1.out.size))
  have HT2 := Lib.hid (HT1.out.below b2 (Nat.le_refl _))
  have HX2 := Lib.hid (HX1.out.below b2 (Nat.le_refl _))
  have HY2 := Lib.hid (HY1.out.below b2 (Nat.le_refl _))
  have HV2 := Lib.hid hv2
  clear hc1 hc2 hb2 b2 hv2
  go_wp2_with fail
  refine (many_any _ _ z (xs ++ ys) _ HT2.out HV2.out (by rw [List.length_append]; omega)).mono ?_
  rintro e w3 ⟨hb3, hp⟩
  have HB3 := Lib.hid (HB2.out.trans (hb3.mono HB2.out.size))
  have HT3 := Lib.hid (HT2.out.below hb3 (Nat.le_refl _))
  have HX3 := Lib.hid (HX2.out.below hb3 (Nat.le_refl _))
  have HY3 := Lib.hid (HY2.out.below hb3 (Nat.le_refl _))
  have HP := Lib.hid hp
  clear hb3 hp HB1 HT1 HX1 HY1 HB2 HT2 HX2 HY2 HV2
  rw [HA.out] at HP
  have hm := many_any _ _ z xs _ HT3.out HX3.out (by omega)
  have HM := Lib.hid hm
  clear hm
  have HIN := Lib.hid (fun q (hq : many xs z = some q) => HIN.out q hq)
  generalize many xs z = o at *
  cases o with
  | none =>
    obtain ⟨c, hc0, hc1, hc2, rfl⟩ := show ∃ c : Int, c ≠ 0 ∧ -9223372036854775808 ≤ c ∧ c ≤ 9223372036854775807 ∧ e = .returned (.tuple #[.slice none 0 0, .int .i64 0, .int .i64 c]) from HP.out
    have hc3 : (c != 0) = true := by rw [bne_iff_ne]; exact hc0
    clear HP
    go_wp2_with fail
    refine HM.out.mono ?_
    rintro e w4 ⟨hb4, d, hd0, hd1, hd2, rfl⟩
    have HB4 := Lib.hid (HB3.out.trans (hb4.mono HB3.out.size))
    clear hb4
    go_wp2_with fail
    go_ret
    exact ⟨by simp, HB4.out⟩
  | some q =>
    obtain ⟨y, v⟩ := q
    obtain ⟨hv, hyl⟩ := HIN.out _ rfl
    simp only at hv hyl
    rw [Option.bind_some] at HP
    have hm2 := fun (v' : Value) (w' : World) (ht : RdB w' v' (z.drop v)) (hy : Rd w' (.slice a3 len3 cap3) ys) => many_any v' _ (z.drop v) ys w' ht hy (by omega)
    have HM2 := Lib.hid hm2
    clear hm2
    simp only at HP
    have HL := Lib.hid (fun q (hq : many ys (z.drop v) = some q) => many_in ys _ q hq)
    generalize many ys (z.drop v) = o2 at *
    cases o2 with
    | none =>
      obtain ⟨c, hc0, hc1, hc2, rfl⟩ := show ∃ c : Int, c ≠ 0 ∧ -9223372036854775808 ≤ c ∧ c ≤ 9223372036854775807 ∧ e = .returned (.tuple #[.slice none 0 0, .int .i64 0, .int .i64 c]) from HP.out
      have hc3 : (c != 0) = true := by rw [bne_iff_ne]; exact hc0
      clear HP
      go_wp2_with fail
      refine HM.out.mono ?_
      rintro e w4 ⟨hb4, v4, r4, rfl⟩
      have HB4 := Lib.hid (HB3.out.trans (hb4.mono HB3.out.size))
      clear hb4
      go_wp2_with fail
      go_ret
      exact ⟨by simp, HB4.out⟩
    | some q2 =>
      obtain ⟨zz, u⟩ := q2
      have HL2 : Hid (zz.length ≤ 1048576 ∧ True) := ⟨by have := (HL.out _ rfl).2; simp only at this; omega, trivial⟩
      have HUL : Hid (u ≤ (z.drop v).length) := (HL.out _ rfl).1
      clear HL
      obtain ⟨vx, ⟨rx, -⟩, rfl⟩ := show ∃ vx, (Rd w3 vx (y ++ zz) ∧ NilOk vx) ∧ e = .returned (.tuple #[vx, .int .i64 (v + u : Nat), .int .i64 0]) from HP.out
      have RX := Lib.hid rx
      clear HP rx
      have hus : u ≤ z.length - v := by have := HUL.out; rw [List.length_drop] at this; exact this
      have hsum : (v : Int) + (u : Int) = ((v + u : Nat) : Int) := by omega
      have hsb : v + u ≤ 9223372036854775807 := by omega
      generalize v + u = s at *
      go_wp2_with fail
      refine HM.out.mono ?_
      rintro e w4 ⟨hb4, v4, ⟨r4, n4⟩, rfl⟩
      have N4 := Lib.hid n4
      clear n4
      have HB4 := Lib.hid (HB3.out.trans (hb4.mono HB3.out.size))
      have RX4 := Lib.hid (RX.out.below hb4 (Nat.le_refl _))
      have RY4 := Lib.hid r4
      have HT4 := Lib.hid (HT3.out.below hb4 (Nat.le_refl _))
      have HY4 := Lib.hid (HY3.out.below hb4 (Nat.le_refl _))
      have HD := Lib.hid (HT4.out.drop (k := v) (by omega))
      clear hb4 r4 HT3 HX3 HY3 HB3 RX HM
      by_cases hcu : cap = v
      · have h1 := Lib.hid (HM2.out _ _ (HD.out.2 hcu) HY4.out)
        subst hcu
        go_wp2_with fail
        refine h1.out.mono ?_
        rintro e w5 ⟨hb5, v5, ⟨r5, n5⟩, rfl⟩
        have HB5 := Lib.hid (HB4.out.trans (hb5.mono HB4.out.size))
        have RX5 := Lib.hid (RX4.out.below hb5 (Nat.le_refl _))
        have r5 : Rd w5 v5 zz := r5
        have ry5 : Rd w5 v4 y := RY4.out.below hb5 (Nat.le_refl _)
        obtain ⟨a4, cap4, rfl, -, -, -⟩ := ry5.open
        obtain ⟨a5, cap5, rfl, -, -, -⟩ := r5.open
        have hn4 := N4.out
        have HN4 := Lib.hid (fun e : a4 = none => by subst e; exact hn4 _ _ rfl)
        have HN5 := Lib.hid (fun e : a5 = none => by subst e; exact n5 _ _ rfl)
        have RY5 := Lib.hid ry5
        have RZ5 := Lib.hid r5
        have ly : y.length ≤ 1048576 := by omega
        have lz := HL2.out.1
        clear hb5 r5 HB4 RX4 RY4 HD h1 HM2 n5 ry5 hn4 N4 hyl l1 l2 l3 hv HA HIN
        clear HIN
        go_wp2_with fail
        have hc1 : (w5.alloc (.cells #[.slice a4 y.length cap4, .slice a5 zz.length cap5] 23)).cell? ⟨w5.heap.size, 0, none⟩ = some (.slice a4 y.length cap4) := cell_of_row _ _ 0 _ _ _ (heap_alloc_new w5 _)
        have hc2 : (w5.alloc (.cells #[.slice a4 y.length cap4, .slice a5 zz.length cap5] 23)).cell? ⟨w5.heap.size, 1, none⟩ = some (.slice a5 zz.length cap5) := cell_of_row _ _ 1 _ _ _ (heap_alloc_new w5 _)
        refine (concati_any w5.heap.size y.length cap4 zz.length cap5 a4 a5 _ _ _ (RY5.out.alloc _) (RZ5.out.alloc _) HN4.out HN5.out hc1 hc2 (by simp) (by omega)).mono ?_
        rintro e w6 ⟨hb6, v6, rfl, r6⟩
        have b6 := ((Below.refl w5.heap.size w5).alloc (Nat.le_refl _) _).trans (hb6.mono (by simp))
        have HB6 := Lib.hid (HB5.out.trans (b6.mono HB5.out.size))
        have RX6 := Lib.hid (RX5.out.below b6 (Nat.le_refl _))
        have R6 := Lib.hid r6
        clear hc1 hc2 hb6 r6 b6 RY5 RZ5 HB5 RX5
        go_wp2_with fail
        refine (equal_any _ _ _ _ _ RX6.out R6.out).mono ?_
        rintro e w7 ⟨rfl, hb7⟩
        have HB7 := Lib.hid (HB6.out.trans (hb7.mono HB6.out.size))
        clear hb7
        go_wp2_with fail
        go_ret
        exact ⟨by simp, HB7.out⟩
      · have h1 := Lib.hid (HM2.out _ _ (HD.out.1 hcu) HY4.out)
        go_wp2_with fail
        refine h1.out.mono ?_
        rintro e w5 ⟨hb5, v5, ⟨r5, n5⟩, rfl⟩
        have HB5 := Lib.hid (HB4.out.trans (hb5.mono HB4.out.size))
        have RX5 := Lib.hid (RX4.out.below hb5 (Nat.le_refl _))
        have r5 : Rd w5 v5 zz := r5
        have ry5 : Rd w5 v4 y := RY4.out.below hb5 (Nat.le_refl _)
        obtain ⟨a4, cap4, rfl, -, -, -⟩ := ry5.open
        obtain ⟨a5, cap5, rfl, -, -, -⟩ := r5.open
        have hn4 := N4.out
        have HN4 := Lib.hid (fun e : a4 = none => by subst e; exact hn4 _ _ rfl)
        have HN5 := Lib.hid (fun e : a5 = none => by subst e; exact n5 _ _ rfl)
        have RY5 := Lib.hid ry5
        have RZ5 := Lib.hid r5
        have ly : y.length ≤ 1048576 := by omega
        have lz := HL2.out.1
        clear hb5 r5 HB4 RX4 RY4 HD h1 HM2 n5 ry5 hn4 N4 hyl l1 l2 l3 hv HA HIN
        clear HIN
        go_wp2_with fail
        have hc1 : (w5.alloc (.cells #[.slice a4 y.length cap4, .slice a5 zz.length cap5] 23)).cell? ⟨w5.heap.size, 0, none⟩ = some (.slice a4 y.length cap4) := cell_of_row _ _ 0 _ _ _ (heap_alloc_new w5 _)
        have hc2 : (w5.alloc (.cells #[.slice a4 y.length cap4, .slice a5 zz.length cap5] 23)).cell? ⟨w5.heap.size, 1, none⟩ = some (.slice a5 zz.length cap5) := cell_of_row _ _ 1 _ _ _ (heap_alloc_new w5 _)
        refine (concati_any w5.heap.size y.length cap4 zz.length cap5 a4 a5 _ _ _ (RY5.out.alloc _) (RZ5.out.alloc _) HN4.out HN5.out hc1 hc2 (by simp) (by omega)).mono ?_
        rintro e w6 ⟨hb6, v6, rfl, r6⟩
        have b6 := ((Below.refl w5.heap.size w5).alloc (Nat.le_refl _) _).trans (hb6.mono (by simp))
        have HB6 := Lib.hid (HB5.out.trans (b6.mono HB5.out.size))
        have RX6 := Lib.hid (RX5.out.below b6 (Nat.le_refl _))
        have R6 := Lib.hid r6
        clear hc1 hc2 hb6 r6 b6 RY5 RZ5 HB5 RX5
        go_wp2_with fail
        refine (equal_any _ _ _ _ _ RX6.out R6.out).mono ?_
        rintro e w7 ⟨rfl, hb7⟩
        have HB7 := Lib.hid (HB6.out.trans (hb7.mono HB6.out.size))
        clear hb7
        go_wp2_with fail
        go_ret
        exact ⟨by simp, HB7.out⟩
end Go.Proofs.Ytjcdkajcbefgcaa.tapeMany
