/- The walk of CoinMore. No condition. -/
import Derived.Test.YtkdidgkanfjfmaaMore
set_option linter.unusedSimpArgs false
set_option linter.unusedVariables false
namespace Go.Proofs.Ytkdidgkanfjfmaa.coinMore
open Go.RowKit Go.Proofs.Ytkdidgkanfjfmaa Go.WideShapes Go.ChangeShapes Go.ChangeAt
set_option maxHeartbeats 1600000 in
theorem walkI (a : Option Addr) (len cap : Nat) (z : List Bool) (n d n' d' : Int) (w : World) (h : RdB w (.slice a len cap) z) :
    Calls Try.prog 4 #[.slice a len cap, .agg #[.int .i64 n, .int .i64 d], .agg #[.int .i64 n', .int .i64 d']] w fun e w' => e = .returned (.bool true) ∧ Below w.heap.size w w' := by
  have HRD := Lib.hid h
  clear h
  go_enter Try.func4, Try.ntmps4
  go_wp2_with fail
  refine (alive_any _).mono ?_
  rintro e w1 ⟨rfl, hb1⟩
  obtain ⟨p0, p1⟩ := cell01 w (.int .i64 n) (.int .i64 d) 23
  have c0 : ((w.alloc (.cells #[.int .i64 n, .int .i64 d] 23)).alloc (.cells #[.int .i64 n', .int .i64 d'] 23)).heap[w.heap.size]? = (w.alloc (.cells #[.int .i64 n, .int .i64 d] 23)).heap[w.heap.size]? := Below.heap_alloc _ _ _ (by simp)
  obtain ⟨q0, q1⟩ := cell01 (w.alloc (.cells #[.int .i64 n, .int .i64 d] 23)) (.int .i64 n') (.int .i64 d') 23
  have bb := (((Below.refl w.heap.size w).alloc (Nat.le_refl _) (.cells #[.int .i64 n, .int .i64 d] 23)).alloc (by simp) (.cells #[.int .i64 n', .int .i64 d'] 23)).trans (hb1.mono (by simp; omega))
  have P0 := Lib.hid (((bcell hb1).1 w.heap.size 0 (by simp; omega)).trans ((World.cell?_of_block c0).trans p0))
  have P1 := Lib.hid (((bcell hb1).1 w.heap.size 1 (by simp; omega)).trans ((World.cell?_of_block c0).trans p1))
  have Q0 := Lib.hid (((bcell hb1).1 _ 0 (by simp)).trans q0)
  have Q1 := Lib.hid (((bcell hb1).1 _ 1 (by simp)).trans q1)
  have hsz := Lib.hid hb1.size
  simp only [World.size_alloc] at Q0 Q1 hsz
  have HB := Lib.hid bb
  clear hb1 bb p0 p1 q0 q1 c0
  have p0 := P0.out; have p1 := P1.out; have q0 := Q0.out; have q1 := Q1.out
  go_wp2_with fail
  refine (toss_any _ z n d _ (HRD.out.below HB.out (Nat.le_refl _))).mono ?_
  rintro e w2 ⟨hb2, x, u, c, rfl, hx⟩
  have HX := Lib.hid hx
  have l0 : w.heap.size < w1.heap.size := by have := hsz.out; omega
  have l1 : w.heap.size + 1 < w1.heap.size := by have := hsz.out; omega
  have p0 := ((bcell hb2).1 _ 0 l0).trans P0.out
  have p1 := ((bcell hb2).1 _ 1 l0).trans P1.out
  have q0 := ((bcell hb2).1 _ 0 l1).trans Q0.out
  have q1 := ((bcell hb2).1 _ 1 l1).trans Q1.out
  have P0 := Lib.hid p0; have P1 := Lib.hid p1; have Q0 := Lib.hid q0; have Q1 := Lib.hid q1
  have hsz2 := Lib.hid (Nat.le_trans hsz.out hb2.size)
  have HB2 := Lib.hid (HB.out.trans (hb2.mono HB.out.size))
  clear hb2 hx hsz HB l0 l1
  go_wp2_with fail
  refine (toss_any _ z n' d' _ (HRD.out.below HB2.out (Nat.le_refl _))).mono ?_
  rintro e w3 ⟨hb3, y, v, c', rfl, hy⟩
  have HY := Lib.hid hy
  have l0 : w.heap.size < w2.heap.size := by have := hsz2.out; omega
  have l1 : w.heap.size + 1 < w2.heap.size := by have := hsz2.out; omega
  have r0 := ((bcell hb3).1 _ 0 l0).trans P0.out
  have r1 := ((bcell hb3).1 _ 1 l0).trans P1.out
  have s0 := ((bcell hb3).1 _ 0 l1).trans Q0.out
  have s1 := ((bcell hb3).1 _ 1 l1).trans Q1.out
  have HB3 := Lib.hid (HB2.out.trans (hb3.mono HB2.out.size))
  clear hb3 hy hsz2 HB2 l0 l1 p0 p1 q0 q1 P0 P1 Q0 Q1
  by_cases hc : c = 0
  · subst hc
    by_cases hc' : c' = 0
    · subst hc'
      obtain ⟨hr, ht⟩ : RightP n d ∧ tossN n.toNat d.toNat z = some (x, u) := by
        rcases HX.out with ⟨_, h1, h2⟩ | ⟨h, _⟩ | ⟨h, _⟩
        · exact ⟨h1, h2⟩
        · cases h
        · cases h
      obtain ⟨hr', ht'⟩ : RightP n' d' ∧ tossN n'.toNat d'.toNat z = some (y, v) := by
        rcases HY.out with ⟨_, h1, h2⟩ | ⟨h, _⟩ | ⟨h, _⟩
        · exact ⟨h1, h2⟩
        · cases h
        · cases h
      obtain ⟨r1', r2', r3', r4'⟩ := hr
      obtain ⟨s1', s2', s3', s4'⟩ := hr'
      by_cases hd : 1073741824 < d
      · have e1 : decide (1073741824 < d) = true := decide_eq_true hd
        clear HX HY ht ht'
        go_wp2_with fail
        go_ret
        exact ⟨by simp, HB3.out⟩
      · by_cases hd' : 1073741824 < d'
        · have e1 : decide (1073741824 < d') = true := decide_eq_true hd'
          have e2 : decide (1073741824 < d) = false := decide_eq_false hd
          clear HX HY ht ht'
          go_wp2_with fail
          go_ret
          exact ⟨by simp, HB3.out⟩
        · have e1 : decide (1073741824 < d') = false := decide_eq_false hd'
          have e2 : decide (1073741824 < d) = false := decide_eq_false hd
          obtain ⟨N, rfl⟩ : ∃ k : Nat, n = k := ⟨n.toNat, by omega⟩
          obtain ⟨D, rfl⟩ : ∃ k : Nat, d = k := ⟨d.toNat, by omega⟩
          obtain ⟨N', rfl⟩ : ∃ k : Nat, n' = k := ⟨n'.toNat, by omega⟩
          obtain ⟨D', rfl⟩ : ∃ k : Nat, d' = k := ⟨d'.toNat, by omega⟩
          simp only [Int.toNat_natCast] at ht ht'
          have m1 : (N : Int) * (D' : Int) = ((N * D' : Nat) : Int) := by simp
          have m2 : (N' : Int) * (D : Int) = ((N' * D : Nat) : Int) := by simp
          have b1 : N * D' ≤ 1073741824 * 1073741824 := Nat.mul_le_mul (by omega) (by omega)
          have b2 : N' * D ≤ 1073741824 * 1073741824 := Nat.mul_le_mul (by omega) (by omega)
          by_cases hle : N * D' ≤ N' * D
          · have hres := Lib.hid (tossN_more (n := N) (d := D) (n' := N') (d' := D') (by omega) (by omega) (by omega) (by omega) hle ht ht')
            have d1 : decide (((N * D' : Nat) : Int) ≤ ((N' * D : Nat) : Int)) = true := decide_eq_true (by omega)
            clear HX HY ht ht'
            generalize N * D' = A at *
            generalize N' * D = B at *
            have d2 : decide (A ≤ B) = true := decide_eq_true hle
            cases x <;> cases y <;> first
              | exact absurd hres.out (by decide)
              | (go_wp2_with fail
                 go_ret
                 exact ⟨by simp, HB3.out⟩)
          · have hres := Lib.hid (tossN_more (n := N') (d := D') (n' := N) (d' := D) (by omega) (by omega) (by omega) (by omega) (by omega) ht' ht)
            have d1 : decide (((N * D' : Nat) : Int) ≤ ((N' * D : Nat) : Int)) = false := decide_eq_false (by omega)
            clear HX HY ht ht'
            generalize N * D' = A at *
            generalize N' * D = B at *
            have d2 : decide (A ≤ B) = false := decide_eq_false hle
            cases x <;> cases y <;> first
              | exact absurd hres.out (by decide)
              | (go_wp2_with fail
                 go_ret
                 exact ⟨by simp, HB3.out⟩)
    · have e1 : (c' != 0) = true := by rw [bne_iff_ne]; exact hc'
      clear HX HY
      go_wp2_with fail
      go_ret
      exact ⟨by simp, HB3.out⟩
  · have e1 : (c != 0) = true := by rw [bne_iff_ne]; exact hc
    clear HX HY
    go_wp2_with fail
    go_ret
    exact ⟨by simp, HB3.out⟩
theorem walk (a : Option Addr) (len cap : Nat) (z : List Bool) (p q : Int × Int) (w : World) (h : IsRowB w a len cap z) (_ : I64 p.1 ∧ I64 p.2) (_ : I64 q.1 ∧ I64 q.2) :
    Calls Try.prog 4 #[.slice a len cap, .agg #[.int .i64 p.1, .int .i64 p.2], .agg #[.int .i64 q.1, .int .i64 q.2]] w fun e w' => e = .returned (.bool true) ∧ Below w.heap.size w w' :=
  walkI a len cap z p.1 p.2 q.1 q.2 w h.rd
end Go.Proofs.Ytkdidgkanfjfmaa.coinMore
