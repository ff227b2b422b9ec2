/- The walk of BottomParts, rows of at most 2^20 numbers. -/
import Derived.Test.YticodfdonpookaaBottomLessW
import Derived.Test.YticodfdonpookaaJoin0
import Derived.Test.YticodfdonpookaaConc3
set_option linter.unusedSimpArgs false
set_option linter.unusedVariables false
namespace Go.Proofs.Yticodfdonpookaa.bottomParts
open Go.RowKit Go.Proofs.Yticodfdonpookaa
theorem eqN (v v' : Value) (xs : List (BitVec 64)) (w : World) (h : RdN w v xs) (h' : RdN w v' xs) : Calls Try.prog 12 #[v, v'] w fun e w' => e = .returned (.bool true) ∧ Below w.heap.size w w' := by
  obtain ⟨a, n, c, rfl, -, -, r⟩ := h
  obtain ⟨a', n', c', rfl, -, -, r'⟩ := h'
  refine (equal_any _ _ _ _ w r r').mono ?_
  rintro e w' ⟨rfl, hb⟩
  exact ⟨by simp, hb⟩
set_option maxHeartbeats 3200000 in
theorem run (s : BitVec 64) (room : Int) (a1 a2 a3 : Option Addr) (n1 n2 n3 c1 c2 c3 : Nat) (xs ys zs : List (BitVec 64)) (w : World) (h1 : Rd w (.slice a1 n1 c1) (us xs)) (h2 : Rd w (.slice a2 n2 c2) (us ys)) (h3 : Rd w (.slice a3 n3 c3) (us zs))
    (z1 : a1 = none → n1 = 0 ∧ c1 = 0) (z2 : a2 = none → n2 = 0 ∧ c2 = 0) (z3 : a3 = none → n3 = 0 ∧ c3 = 0) (b1 : n1 ≤ 1048576) (b2 : n2 ≤ 1048576) (b3 : n3 ≤ 1048576) :
    Calls Try.prog 3 #[.int .u64 (U s), .int .i64 room, .slice a1 n1 c1, .slice a2 n2 c2, .slice a3 n3 c3] w fun e w' => e = .returned (.bool true) ∧ Below w.heap.size w w' := by
  have HCO : Hid (∀ w5 : World, Below w.heap.size w w5 → Calls Try.prog 10 #[.slice (some ⟨w5.heap.size, 0, none⟩) 3 3] (w5.alloc (.cells #[.slice a1 n1 c1, .slice a2 n2 c2, .slice a3 n3 c3] 23)) fun e w' => Below w5.heap.size w5 w' ∧ ∃ v, e = .returned v ∧ Rd w' v (us (xs ++ ys ++ zs))) := fun w5 hb5 => by
    have hb6 : Below w5.heap.size w5 (w5.alloc (.cells #[.slice a1 n1 c1, .slice a2 n2 c2, .slice a3 n3 c3] 23)) := (Below.refl _ _).alloc (Nat.le_refl _) _
    have hbb := hb5.trans (hb6.mono hb5.size)
    refine (concat3_any w5.heap.size n1 c1 n2 c2 n3 c3 a1 a2 a3 (us xs) (us ys) (us zs) _ (h1.below hbb (Nat.le_refl _)) (h2.below hbb (Nat.le_refl _)) (h3.below hbb (Nat.le_refl _)) z1 z2 z3 ?_ ?_ ?_ (by simp) (by omega)).mono ?_
    · rw [cell_of_row _ _ _ _ 23 (0, 0) (heap_alloc_new w5 _)]; rfl
    · rw [cell_of_row _ _ _ _ 23 (0, 0) (heap_alloc_new w5 _)]; rfl
    · rw [cell_of_row _ _ _ _ 23 (0, 0) (heap_alloc_new w5 _)]; rfl
    · rintro e w' ⟨hb, v, rfl, hv⟩
      refine ⟨hb6.trans (hb.mono (by simp)), v, rfl, ?_⟩
      rw [show us (xs ++ ys ++ zs) = us xs ++ us ys ++ us zs by simp [us]]
      exact Rd.own hv
  by_cases hr : 1 ≤ room ∧ room ≤ 400
  · have hrI : ((room.toNat : Nat) : Int) = room := by omega
    have LA := Lib.hid (fun w1 hb1 => all_any s room _ xs w1 (h1.below (w' := w1) hb1 (Nat.le_refl _)) hr)
    have LB := Lib.hid (fun w1 hb1 => all_any s room _ ys w1 (h2.below (w' := w1) hb1 (Nat.le_refl _)) hr)
    have LC := Lib.hid (fun w1 hb1 => all_any s room _ zs w1 (h3.below (w' := w1) hb1 (Nat.le_refl _)) hr)
    have LT := Lib.hid (fun v w1 (h : Rd w1 v (us (xs ++ ys ++ zs))) => all_any s room v _ w1 h hr)
    have JJ : Hid (∀ (p q : List (BitVec 64)) (v v' : Value) (w1 : World), RdN w1 v (sk s room.toNat p) → RdN w1 v' (sk s room.toNat q) → Calls Try.prog 11 #[.int .u64 (U s), .int .i64 room, v, v'] w1 fun e w' => (∃ r, e = .returned (.tuple #[r, .int .i64 0]) ∧ RdN w' r (sk s room.toNat (p ++ q))) ∧ Below w1.heap.size w1 w') := fun p q v v' w1 g1 g2 => by
      have := join_tot s room v v' _ _ w1 g1 g2 hr (by have := sk_len s room.toNat p; omega) (by have := sk_len s room.toNat q; omega) (sk_asc _ _ _) (sk_asc _ _ _)
      rwa [sk_both] at this
    have ET : Hid (sk s room.toNat (zs ++ ys ++ xs) = sk s room.toNat (xs ++ ys ++ zs)) := sk_congr _ fun x => by simp only [List.mem_append]; constructor <;> (rintro ((h | h) | h) <;> simp [h])
    have ES : Hid (sk s room.toNat (xs ++ xs) = sk s room.toNat xs) := sk_congr _ fun x => by simp
    generalize room.toNat = r at *
    generalize U s = ss at *
    clear h1 h2 h3 z1 z2 z3 hrI hr
    go_enter Try.func3, Try.ntmps3
    go_wp2_with fail
    refine (alive_any w).mono ?_
    rintro e w1 ⟨rfl, hb1⟩
    have HB1 := Lib.hid hb1
    have HC := Lib.hid (LA.out w1 hb1)
    clear hb1
    go_wp2_with fail
    refine HC.out.mono ?_
    rintro e w2 ⟨⟨va, rfl, ra⟩, hb2⟩
    have hb2' := HB1.out.trans (hb2.mono HB1.out.size)
    have HB2 := Lib.hid hb2'
    have RA := Lib.hid ra
    have HC := Lib.hid (LB.out w2 hb2')
    clear hb2 hb2' ra
    go_wp2_with fail
    refine HC.out.mono ?_
    rintro e w3 ⟨⟨vb, rfl, rb⟩, hb3⟩
    have hb3' := HB2.out.trans (hb3.mono HB2.out.size)
    have HB3 := Lib.hid hb3'
    have RA := Lib.hid (RA.out.below hb3 (Nat.le_refl _))
    have RB := Lib.hid rb
    have HC := Lib.hid (LC.out w3 hb3')
    clear hb3 hb3' rb
    go_wp2_with fail
    refine HC.out.mono ?_
    rintro e w4 ⟨⟨vc, rfl, rc⟩, hb4⟩
    have hb4' := HB3.out.trans (hb4.mono HB3.out.size)
    have HB4 := Lib.hid hb4'
    have RA := Lib.hid (RA.out.below hb4 (Nat.le_refl _))
    have RB := Lib.hid (RB.out.below hb4 (Nat.le_refl _))
    have RC := Lib.hid rc
    have HC := Lib.hid (HCO.out w4 hb4')
    clear hb4 hb4' rc
    go_wp2_with fail
    refine HC.out.mono ?_
    rintro e w5 ⟨hb5, v5, rfl, r5⟩
    have HB5 := Lib.hid (HB4.out.trans (hb5.mono HB4.out.size))
    have RA := Lib.hid (RA.out.below hb5 (Nat.le_refl _))
    have RB := Lib.hid (RB.out.below hb5 (Nat.le_refl _))
    have RC := Lib.hid (RC.out.below hb5 (Nat.le_refl _))
    have HC := Lib.hid (LT.out v5 w5 r5)
    clear hb5 r5
    go_wp2_with fail
    refine HC.out.mono ?_
    rintro e w6 ⟨⟨vt, rfl, rt⟩, hb6⟩
    have HB6 := Lib.hid (HB5.out.trans (hb6.mono HB5.out.size))
    have RA := Lib.hid (RA.out.below hb6 (Nat.le_refl _))
    have RB := Lib.hid (RB.out.below hb6 (Nat.le_refl _))
    have RC := Lib.hid (RC.out.below hb6 (Nat.le_refl _))
    have RT := Lib.hid rt
    have HC := Lib.hid (JJ.out _ _ _ _ w6 RA.out RB.out)
    clear hb6 rt
    go_wp2_with fail
    refine HC.out.mono ?_
    rintro e w7 ⟨⟨vab, rfl, rab⟩, hb7⟩
    have HB7 := Lib.hid (HB6.out.trans (hb7.mono HB6.out.size))
    have RA := Lib.hid (RA.out.below hb7 (Nat.le_refl _))
    have RB := Lib.hid (RB.out.below hb7 (Nat.le_refl _))
    have RC := Lib.hid (RC.out.below hb7 (Nat.le_refl _))
    have RT := Lib.hid (RT.out.below hb7 (Nat.le_refl _))
    have HC := Lib.hid (JJ.out _ _ _ _ w7 rab RC.out)
    clear hb7 rab
    go_wp2_with fail
    refine HC.out.mono ?_
    rintro e w8 ⟨⟨v1, rfl, r1⟩, hb8⟩
    have HB8 := Lib.hid (HB7.out.trans (hb8.mono HB7.out.size))
    have RA := Lib.hid (RA.out.below hb8 (Nat.le_refl _))
    have RB := Lib.hid (RB.out.below hb8 (Nat.le_refl _))
    have RC := Lib.hid (RC.out.below hb8 (Nat.le_refl _))
    have RT := Lib.hid (RT.out.below hb8 (Nat.le_refl _))
    have R1 := Lib.hid r1
    have HC := Lib.hid (JJ.out _ _ _ _ w8 RC.out RB.out)
    clear hb8 r1
    go_wp2_with fail
    refine HC.out.mono ?_
    rintro e w9 ⟨⟨vbc, rfl, rbc⟩, hb9⟩
    have HB9 := Lib.hid (HB8.out.trans (hb9.mono HB8.out.size))
    have RA := Lib.hid (RA.out.below hb9 (Nat.le_refl _))
    have RT := Lib.hid (RT.out.below hb9 (Nat.le_refl _))
    have R1 := Lib.hid (R1.out.below hb9 (Nat.le_refl _))
    have HC := Lib.hid (JJ.out _ _ _ _ w9 rbc RA.out)
    clear hb9 rbc
    go_wp2_with fail
    refine HC.out.mono ?_
    rintro e w10 ⟨⟨v2, rfl, r2⟩, hb10⟩
    have HB10 := Lib.hid (HB9.out.trans (hb10.mono HB9.out.size))
    have RA := Lib.hid (RA.out.below hb10 (Nat.le_refl _))
    have RT := Lib.hid (RT.out.below hb10 (Nat.le_refl _))
    have R1 := Lib.hid (R1.out.below hb10 (Nat.le_refl _))
    rw [ET.out] at r2
    have R2 := Lib.hid r2
    have HC := Lib.hid (JJ.out _ _ _ _ w10 RA.out RA.out)
    clear hb10 r2
    go_wp2_with fail
    refine HC.out.mono ?_
    rintro e w11 ⟨⟨v3, rfl, r3⟩, hb11⟩
    have HB11 := Lib.hid (HB10.out.trans (hb11.mono HB10.out.size))
    have RA := Lib.hid (RA.out.below hb11 (Nat.le_refl _))
    have RT := Lib.hid (RT.out.below hb11 (Nat.le_refl _))
    have R1 := Lib.hid (R1.out.below hb11 (Nat.le_refl _))
    have R2 := Lib.hid (R2.out.below hb11 (Nat.le_refl _))
    rw [ES.out] at r3
    have R3 := Lib.hid r3
    have HC := Lib.hid (eqN _ _ _ w11 R1.out RT.out)
    clear hb11 r3 LA LB LC LT JJ HCO
    go_wp2_with fail
    refine HC.out.mono ?_
    rintro e w12 ⟨rfl, hb12⟩
    have HB12 := Lib.hid (HB11.out.trans (hb12.mono HB11.out.size))
    have RA := Lib.hid (RA.out.below hb12 (Nat.le_refl _))
    have RT := Lib.hid (RT.out.below hb12 (Nat.le_refl _))
    have R2 := Lib.hid (R2.out.below hb12 (Nat.le_refl _))
    have R3 := Lib.hid (R3.out.below hb12 (Nat.le_refl _))
    have HC := Lib.hid (eqN _ _ _ w12 R2.out RT.out)
    clear hb12
    go_wp2_with fail
    refine HC.out.mono ?_
    rintro e w13 ⟨rfl, hb13⟩
    have HB13 := Lib.hid (HB12.out.trans (hb13.mono HB12.out.size))
    have HC := Lib.hid (eqN _ _ _ w13 (R3.out.below hb13 (Nat.le_refl _)) (RA.out.below hb13 (Nat.le_refl _)))
    clear hb13
    go_wp2_with fail
    refine HC.out.mono ?_
    rintro e w14 ⟨rfl, hb14⟩
    have HB14 := Lib.hid (HB13.out.trans (hb14.mono HB13.out.size))
    clear hb14
    go_wp2_with fail
    go_ret
    exact ⟨rfl, HB14.out⟩
  · have LA := Lib.hid (fun w1 hb1 => all_bad s room _ xs w1 (h1.below (w' := w1) hb1 (Nat.le_refl _)) hr)
    have LB := Lib.hid (fun w1 hb1 => all_bad s room _ ys w1 (h2.below (w' := w1) hb1 (Nat.le_refl _)) hr)
    have LC := Lib.hid (fun w1 hb1 => all_bad s room _ zs w1 (h3.below (w' := w1) hb1 (Nat.le_refl _)) hr)
    have LT := Lib.hid (fun v w1 (h : Rd w1 v (us (xs ++ ys ++ zs))) => all_bad s room v _ w1 h hr)
    generalize U s = ss at *
    clear h1 h2 h3 z1 z2 z3 hr
    go_enter Try.func3, Try.ntmps3
    go_wp2_with fail
    refine (alive_any w).mono ?_
    rintro e w1 ⟨rfl, hb1⟩
    have HB1 := Lib.hid hb1
    have HC := Lib.hid (LA.out w1 hb1)
    have HC2 := Lib.hid (LB.out w1 hb1)
    have HC3 := Lib.hid (LC.out w1 hb1)
    have HC4 := Lib.hid (HCO.out w1 hb1)
    clear hb1
    go_wp2_with fail
    refine HC.out.mono ?_
    rintro e w2 ⟨rfl, rfl⟩
    go_wp2_with fail
    refine HC2.out.mono ?_
    rintro e w3 ⟨rfl, rfl⟩
    go_wp2_with fail
    refine HC3.out.mono ?_
    rintro e w4 ⟨rfl, rfl⟩
    go_wp2_with fail
    refine HC4.out.mono ?_
    rintro e w5 ⟨hb5, v5, rfl, r5⟩
    have HB5 := Lib.hid (HB1.out.trans (hb5.mono HB1.out.size))
    have HC5 := Lib.hid (LT.out v5 w5 r5)
    clear hb5 r5
    go_wp2_with fail
    refine HC5.out.mono ?_
    rintro e w6 ⟨rfl, rfl⟩
    go_wp2_with fail
    go_ret
    exact ⟨rfl, HB5.out⟩
theorem walk (s room : Int) (a1 : Option Addr) (len1 cap1 : Nat) (z1 : List Int) (a2 : Option Addr) (len2 cap2 : Nat) (z2 : List Int) (a3 : Option Addr) (len3 cap3 : Nat) (z3 : List Int) (w : World) (w0 : (Lit.int .u64 s).wf = true) (w1 : (Lit.int .i64 room).wf = true) (w2 : IsRow .u64 w a1 len1 cap1 z1) (r2 : len1 ≤ 1048576) (w3 : IsRow .u64 w a2 len2 cap2 z2) (r3 : len2 ≤ 1048576) (w4 : IsRow .u64 w a3 len3 cap3 z3) (r4 : len3 ≤ 1048576) :
    Calls Try.prog 3 #[.int .u64 s, .int .i64 room, .slice a1 len1 cap1, .slice a2 len2 cap2, .slice a3 len3 cap3] w fun e w' => e = .returned (.bool true) ∧ Below w.heap.size w w' := by
  obtain ⟨xs, hx⟩ := us_of w2
  obtain ⟨ys, hy⟩ := us_of w3
  obtain ⟨zs, hz⟩ := us_of w4
  obtain ⟨h1, -⟩ := IsRow.rd w2
  obtain ⟨h2, -⟩ := IsRow.rd w3
  obtain ⟨h3, -⟩ := IsRow.rd w4
  obtain ⟨x, rfl⟩ := U_of w0
  rw [← hx] at h1
  rw [← hy] at h2
  rw [← hz] at h3
  have g : ∀ (a : Option Addr) (n c : Nat) (z : List Int), IsRow .u64 w a n c z → a = none → n = 0 ∧ c = 0 := fun a n c z h e => by
    rcases h with ⟨-, h2, h3, -⟩ | ⟨x, h1, -⟩
    · exact ⟨h2, h3⟩
    · rw [e] at h1; cases h1
  exact run x room _ _ _ _ _ _ _ _ _ xs ys zs w h1 h2 h3 (g _ _ _ _ w2) (g _ _ _ _ w3) (g _ _ _ _ w4) r2 r3 r4
end Go.Proofs.Yticodfdonpookaa.bottomParts
