/- stats.Both: what it answers. Condition: rows within the reach. -/
import Derived.Test.YtdlnjalkbgkhdaaOf
set_option linter.unusedSimpArgs false
set_option linter.unusedVariables false
namespace Go.Proofs.Ytdlnjalkbgkhdaa
open Go.RowKit
theorem dot_take : ∀ (x y : List Int) (k : Nat), k < x.length → k < y.length → dot (x.take (k + 1)) (y.take (k + 1)) = dot (x.take k) (y.take k) + x.getD k 0 * y.getD k 0
  | [], y, k, h, _ => by simp at h
  | a :: x, [], k, _, h => by simp at h
  | a :: x, b :: y, 0, _, _ => by simp [dot]
  | a :: x, b :: y, k + 1, h1, h2 => by
    have ih := dot_take x y k (by simpa using h1) (by simpa using h2)
    simp only [List.take_succ_cons, dot]
    have e1 : (a :: x).getD (k + 1) 0 = x.getD k 0 := by simp
    have e2 : (b :: y).getD (k + 1) 0 = y.getD k 0 := by simp
    rw [e1, e2]
    omega
theorem prod_bd {x y : Int} (h : -1048576 ≤ x ∧ x ≤ 1048576) (h' : -1048576 ≤ y ∧ y ≤ 1048576) : -1099511627776 ≤ x * y ∧ x * y ≤ 1099511627776 := by
  have h1 := sqr_le h
  have h2 := sqr_le h'
  have h3 : 0 ≤ (x - y) * (x - y) := by
    rcases Int.le_total 0 (x - y) with h | h
    · exact Int.mul_nonneg h h
    · exact Int.mul_nonneg_of_nonpos_of_nonpos h h
  have h4 : 0 ≤ (x + y) * (x + y) := by
    rcases Int.le_total 0 (x + y) with h | h
    · exact Int.mul_nonneg h h
    · exact Int.mul_nonneg_of_nonpos_of_nonpos h h
  have e3 : (x - y) * (x - y) = x * x - 2 * (x * y) + y * y := by grind
  have e4 : (x + y) * (x + y) = x * x + 2 * (x * y) + y * y := by grind
  omega
theorem dot_bd : ∀ {x y : List Int}, Sml x → Sml y → -(x.length : Int) * 1099511627776 ≤ dot x y ∧ dot x y ≤ (x.length : Int) * 1099511627776
  | [], y, _, _ => by simp [dot]
  | a :: x, [], _, _ => by simp only [dot, List.length_cons]; omega
  | a :: x, b :: y, h1, h2 => by
    have h3 := prod_bd (h1 a List.mem_cons_self) (h2 b List.mem_cons_self)
    have ih := dot_bd (x := x) (y := y) (fun z hz => h1 z (List.mem_cons_of_mem _ hz)) (fun z hz => h2 z (List.mem_cons_of_mem _ hz))
    simp only [dot, List.length_cons]
    omega
/-- What both have in common. -/
def cov (x y : List Int) : Int := (x.length : Int) * dot x y - sm x * sm y
set_option maxHeartbeats 800000 in
theorem both_bad (v v' : Value) (x y : List Int) (w : World) (h : Rd w v x) (h' : Rd w v' y) (hno : ¬ (OkL x ∧ OkL y ∧ x.length = y.length)) :
    Calls Try.prog 9 #[v, v'] w fun e w' => (∃ er : Nat, er ≠ 0 ∧ e = .returned (.tuple #[.int .i64 0, .int .i64 er])) ∧ Below w.heap.size w w' := by
  by_cases hx : OkL x
  · have HO := Lib.hid (of_good v x w h hx)
    have HR' := Lib.hid h'
    obtain ⟨a, cap, rfl, -⟩ := h.open
    obtain ⟨a', cap', he', -⟩ := h'.open
    have HE' := Lib.hid he'
    by_cases hy : OkL y
    · have hne : x.length ≠ y.length := fun e => hno ⟨hx, hy, e⟩
      have HY := Lib.hid hy
      obtain ⟨n, hn⟩ : ∃ n, x.length = n := ⟨_, rfl⟩
      obtain ⟨m, hm⟩ : ∃ m, y.length = m := ⟨_, rfl⟩
      have HM := Lib.hid hm
      have t1 : ((n : Int) != (m : Int)) = true := by rw [bne_iff_ne]; omega
      rw [hm] at HE'
      rw [hn] at HO ⊢
      clear h h' hx hy hne hno hn hm he'
      unfold mv at HO
      go_enter Try.func9, Try.ntmps9
      go_wp2_with fail
      refine HO.out.mono ?_
      rintro e w1 ⟨rfl, hb1⟩
      obtain ⟨w2, hw2⟩ : ∃ w2, w1.alloc (.cells #[.int .i64 (n : Int), .int .i64 (sm x), .int .i64 (sq x)] 28) = w2 := ⟨_, rfl⟩
      have HB2 : Hid (Below w.heap.size w w2) := by show Below _ _ _; rw [← hw2]; exact hb1.alloc hb1.size _
      have HO2 := Lib.hid (of_good v' y w2 (HR'.out.below HB2.out (Nat.le_refl _)) HY.out)
      have HW2 := Lib.hid hw2
      unfold mv at HO2
      rw [HM.out] at HO2
      clear hb1 HO hw2
      go_wp2_with fail
      rw [HW2.out]
      refine HO2.out.mono ?_
      rintro e w3 ⟨rfl, hb3⟩
      have HB3 := Lib.hid (HB2.out.trans (hb3.mono HB2.out.size))
      clear hb3 HO2
      have hv := HE'.out
      subst hv
      go_wp2_with fail
      go_ret2
      exact ⟨⟨1, by decide, rfl⟩, HB3.out.alloc HB3.out.size _⟩
    · have HY := Lib.hid hy
      obtain ⟨n, hn⟩ : ∃ n, x.length = n := ⟨_, rfl⟩
      rw [hn] at HO ⊢
      clear h h' hx hy hno hn he'
      unfold mv at HO
      go_enter Try.func9, Try.ntmps9
      go_wp2_with fail
      refine HO.out.mono ?_
      rintro e w1 ⟨rfl, hb1⟩
      obtain ⟨w2, hw2⟩ : ∃ w2, w1.alloc (.cells #[.int .i64 (n : Int), .int .i64 (sm x), .int .i64 (sq x)] 28) = w2 := ⟨_, rfl⟩
      have HB2 : Hid (Below w.heap.size w w2) := by show Below _ _ _; rw [← hw2]; exact hb1.alloc hb1.size _
      have HO2 := Lib.hid (of_bad v' y w2 (HR'.out.below HB2.out (Nat.le_refl _)) HY.out)
      have HW2 := Lib.hid hw2
      unfold mv at HO2
      clear hb1 HO hw2
      go_wp2_with fail
      rw [HW2.out]
      refine HO2.out.mono ?_
      rintro e w3 ⟨rfl, hb3⟩
      have HB3 := Lib.hid (HB2.out.trans (hb3.mono HB2.out.size))
      clear hb3 HO2
      go_wp2_with fail
      go_ret2
      exact ⟨⟨2, by decide, rfl⟩, HB3.out.alloc HB3.out.size _⟩
  · have HO := Lib.hid (of_bad v x w h hx)
    clear h h' hx hno
    unfold mv at HO
    go_enter Try.func9, Try.ntmps9
    go_wp2_with fail
    refine HO.out.mono ?_
    rintro e w1 ⟨rfl, hb1⟩
    have HB1 := Lib.hid hb1
    clear hb1 HO
    go_wp2_with fail
    go_ret2
    exact ⟨⟨2, by decide, rfl⟩, HB1.out.alloc HB1.out.size _⟩
set_option maxHeartbeats 1600000 in
theorem both_any (v v' : Value) (x y : List Int) (w : World) (h : Rd w v x) (h' : Rd w v' y) (hx : OkL x) (hy : OkL y) (hxy : x.length = y.length) :
    Calls Try.prog 9 #[v, v'] w fun e w' => e = .returned (.tuple #[.int .i64 (cov x y), .int .i64 0]) ∧ Below w.heap.size w w' := by
  have HO := Lib.hid (of_good v x w h hx)
  have HR := Lib.hid h
  have HR' := Lib.hid h'
  have HX := Lib.hid hx
  have HY := Lib.hid hy
  obtain ⟨n, hn⟩ : ∃ n, x.length = n := ⟨_, rfl⟩
  have hm : y.length = n := by rw [← hxy, hn]
  have h4 : n ≤ 400 := by have := hx.1; omega
  have bx := hx.2.bd
  have by' := hy.2.bd
  have bd := dot_bd hx.2 hy.2
  rw [hn] at bx bd
  rw [hm] at by'
  obtain ⟨S1, hS1⟩ : ∃ S, sm x = S := ⟨_, rfl⟩
  obtain ⟨S2, hS2⟩ : ∃ S, sm y = S := ⟨_, rfl⟩
  obtain ⟨Q1, hQ1⟩ : ∃ S, sq x = S := ⟨_, rfl⟩
  obtain ⟨Q2, hQ2⟩ : ∃ S, sq y = S := ⟨_, rfl⟩
  obtain ⟨D, hD⟩ : ∃ S, dot x y = S := ⟨_, rfl⟩
  rw [hS1] at bx
  rw [hS2] at by'
  rw [hD] at bd
  obtain ⟨A, hA⟩ : ∃ A, (n : Int) * D = A := ⟨_, rfl⟩
  obtain ⟨B, hB⟩ : ∃ B, S1 * S2 = B := ⟨_, rfl⟩
  have hAb : -175921860444160000 ≤ A ∧ A ≤ 175921860444160000 := by
    have e1 : (n : Int) * D ≤ n * ((n : Int) * 1099511627776) := Int.mul_le_mul_of_nonneg_left bd.2 (by omega)
    have e2 : (n : Int) * (-(n : Int) * 1099511627776) ≤ n * D := Int.mul_le_mul_of_nonneg_left bd.1 (by omega)
    have e3 : (n : Int) * n ≤ 400 * 400 := Int.mul_le_mul (by omega) (by omega) (by omega) (by omega)
    have e4 : (n : Int) * ((n : Int) * 1099511627776) = (n : Int) * n * 1099511627776 := by grind
    have e5 : (n : Int) * (-(n : Int) * 1099511627776) = -((n : Int) * n * 1099511627776) := by grind
    rw [hA] at e1 e2
    rw [e4] at e1
    rw [e5] at e2
    generalize (n : Int) * n = nn at *
    omega
  have hBb : -175921860444160000 ≤ B ∧ B ≤ 175921860444160000 := by
    have f : ∀ s t : Int, -419430400 ≤ s → s ≤ 419430400 → -419430400 ≤ t → t ≤ 419430400 → -175921860444160000 ≤ s * t ∧ s * t ≤ 175921860444160000 := fun s t a b c d => by
      have g : ∀ u : Int, -419430400 ≤ u → u ≤ 419430400 → u * u ≤ 175921860444160000 := fun u a b => by
        have h1 : 0 ≤ (419430400 - u) * (419430400 + u) := Int.mul_nonneg (by omega) (by omega)
        have h2 : (419430400 - u) * (419430400 + u) = 175921860444160000 - u * u := by grind
        omega
      have g1 := g s a b
      have g2 := g t c d
      have h3 : 0 ≤ (s - t) * (s - t) := by
        rcases Int.le_total 0 (s - t) with h | h
        · exact Int.mul_nonneg h h
        · exact Int.mul_nonneg_of_nonpos_of_nonpos h h
      have h4 : 0 ≤ (s + t) * (s + t) := by
        rcases Int.le_total 0 (s + t) with h | h
        · exact Int.mul_nonneg h h
        · exact Int.mul_nonneg_of_nonpos_of_nonpos h h
      have e3 : (s - t) * (s - t) = s * s - 2 * (s * t) + t * t := by grind
      have e4 : (s + t) * (s + t) = s * s + 2 * (s * t) + t * t := by grind
      omega
    rw [← hB]
    exact f S1 S2 (by omega) (by omega) (by omega) (by omega)
  have HCV : Hid (cov x y = A - B) := by show _ = _; unfold cov; rw [hn, hD, hS1, hS2, hA, hB]
  have z1 : IntKind.i64.wrap ((n : Int) * D) = A := by rw [IntKind.wrap_i64, hA]; omega
  have z2 : IntKind.i64.wrap (S1 * S2) = B := by rw [IntKind.wrap_i64, hB]; omega
  have z3 : IntKind.i64.wrap (A - B) = A - B := by rw [IntKind.wrap_i64]; omega
  have HZ := Lib.hid (And.intro z1 (And.intro z2 z3))
  have HD : Hid (dot (x.take n) (y.take n) = D) := by show _ = _; rw [List.take_of_length_le (by omega), List.take_of_length_le (by omega), hD]
  have HLX := Lib.hid hn
  have HLY := Lib.hid hm
  obtain ⟨a, cap, rfl, -, -, hop⟩ := h.open
  obtain ⟨a', cap', rfl, -, -, hop'⟩ := h'.open
  rw [hn] at hop HR
  rw [hm] at hop' HR'
  have HOP := Lib.hid hop
  have HOP' := Lib.hid hop'
  unfold mv at HO
  rw [hn, hS1, hQ1] at HO
  rw [hn, hm]
  have HS2 := Lib.hid hS2
  have HQ2 := Lib.hid hQ2
  have t1 : ((n : Int) != (n : Int)) = false := by simp
  clear h h' hx hy hxy hn hm bx by' bd hS1 hS2 hQ1 hQ2 hD hA hB hAb hBb z1 z2 z3 hop hop'
  go_enter Try.func9, Try.ntmps9
  go_wp2_with fail
  refine HO.out.mono ?_
  rintro e w1 ⟨rfl, hb1⟩
  obtain ⟨w2, hw2⟩ : ∃ w2, w1.alloc (.cells #[.int .i64 (n : Int), .int .i64 S1, .int .i64 Q1] 28) = w2 := ⟨_, rfl⟩
  have HB2 : Hid (Below w.heap.size w w2) := by show Below _ _ _; rw [← hw2]; exact hb1.alloc hb1.size _
  have HO2 := Lib.hid (of_good _ y w2 (HR'.out.below HB2.out (Nat.le_refl _)) HY.out)
  have HC1 : Hid (w2.cell? ⟨w1.heap.size, 0, none⟩ = some (.int .i64 (n : Int)) ∧ w2.cell? ⟨w1.heap.size, 1, none⟩ = some (.int .i64 S1) ∧ w1.heap.size < w2.heap.size) := by
    show _ ∧ _
    rw [← hw2]
    refine ⟨?_, ?_, by simp⟩ <;> (rw [cell_of_row _ _ _ _ 28 (0, 0) (heap_alloc_new w1 _)]; rfl)
  have HW2 := Lib.hid hw2
  unfold mv at HO2
  rw [HLY.out, HS2.out, HQ2.out] at HO2
  clear hb1 HO hw2
  go_wp2_with fail
  rw [HW2.out]
  obtain ⟨B1, hB1⟩ : ∃ B1, w1.heap.size = B1 := ⟨_, rfl⟩
  rw [hB1] at HC1 ⊢
  clear HW2 hB1
  refine HO2.out.mono ?_
  rintro e w3 ⟨rfl, hb3⟩
  obtain ⟨w4, hw4⟩ : ∃ w4, w3.alloc (.cells #[.int .i64 (n : Int), .int .i64 S2, .int .i64 Q2] 28) = w4 := ⟨_, rfl⟩
  have HB4 : Hid (Below w.heap.size w w4) := by show Below _ _ _; rw [← hw4]; exact (HB2.out.trans (hb3.mono HB2.out.size)).alloc (by have := HB2.out.size; have := hb3.size; omega) _
  have HC4 : Hid (w4.cell? ⟨B1, 0, none⟩ = some (.int .i64 (n : Int)) ∧ w4.cell? ⟨B1, 1, none⟩ = some (.int .i64 S1) ∧ w4.cell? ⟨w3.heap.size, 1, none⟩ = some (.int .i64 S2)) := by
    obtain ⟨e1, e2, e3⟩ := HC1.out
    have e4 : w4.heap[B1]? = w2.heap[B1]? := by
      rw [← hw4, Below.heap_alloc _ _ _ (by have := hb3.size; omega)]
      exact hb3.block _ e3
    refine ⟨(World.cell?_of_block e4).trans e1, (World.cell?_of_block e4).trans e2, ?_⟩
    rw [← hw4, cell_of_row _ _ _ _ 28 (0, 0) (heap_alloc_new w3 _)]; rfl
  have HW4 := Lib.hid hw4
  clear hb3 HO2 HC1 hw4
  go_wp2_with fail
  rw [HW4.out]
  obtain ⟨B3, hB3⟩ : ∃ B3, w3.heap.size = B3 := ⟨_, rfl⟩
  rw [hB3] at HC4 ⊢
  clear HW4 hB3 t1
  go_loopw [34, 9] (fun iv sv wr => ∃ (k : Nat) (s : Int), k ≤ n ∧ iv = .int .i64 k ∧ sv = .int .i64 s ∧ Hid (s = dot (x.take k) (y.take k)) ∧ Hid (∃ q, wr = w4.drewN q)) (fun iv _ _ => n - (intOf iv).toNat)
  case atStart => exact ⟨0, 0, Nat.zero_le _, rfl, rfl, by show (0 : Int) = _; simp [dot], ⟨0, rfl⟩⟩
  case round =>
    obtain ⟨k, s, hk, rfl, rfl, HSD, HWR⟩ := hrel
    obtain ⟨q, hq⟩ := HWR.out
    subst hq
    by_cases hkn : k < n
    · obtain ⟨b, off, rfl, hb, hc⟩ := HOP.out k hkn
      obtain ⟨b', off', rfl, hb', hc'⟩ := HOP'.out k hkn
      have c1 : w4.cell? ⟨b, off + k, none⟩ = some (.int .i64 (x.getD k 0)) := (World.cell?_of_block (HB4.out.block b hb)).trans (hc k hkn)
      have c2 : w4.cell? ⟨b', off' + k, none⟩ = some (.int .i64 (y.getD k 0)) := (World.cell?_of_block (HB4.out.block b' hb')).trans (hc' k hkn)
      have hT := dot_take x y k (by rw [HLX.out]; exact hkn) (by rw [HLY.out]; exact hkn)
      have hbd := dot_bd (HX.out.2.take k) (HY.out.2.take k)
      have hp := prod_bd (HX.out.2 _ (getD_memI x k (by rw [HLX.out]; exact hkn))) (HY.out.2 _ (getD_memI y k (by rw [HLY.out]; exact hkn)))
      rw [List.length_take, HLX.out, Nat.min_eq_left hk] at hbd
      rw [← HSD.out] at hT hbd
      obtain ⟨p, hpp⟩ : ∃ p, x.getD k 0 * y.getD k 0 = p := ⟨_, rfl⟩
      rw [hpp] at hT hp
      obtain ⟨s', hs'⟩ : ∃ s', s + p = s' := ⟨_, rfl⟩
      have y1 : IntKind.i64.wrap (x.getD k 0 * y.getD k 0) = p := by rw [IntKind.wrap_i64, hpp]; omega
      have y2 : IntKind.i64.wrap (s + p) = s' := by rw [IntKind.wrap_i64]; omega
      have HSn : Hid (s' = dot (x.take (k + 1)) (y.take (k + 1))) := by show _ = _; rw [hT, hs']
      have p1 : (0 ≤ (k : Int) ∧ (k : Int) < (n : Int)) = True := eq_true ⟨by omega, by omega⟩
      clear hc hc' hT hbd hp hpp hs' hb hb'
      generalize x.getD k 0 = xx at *
      generalize y.getD k 0 = yy at *
      go_wp2_with fail
      go_quiet (fail)
      go_wp2_with fail
      go_roundw
      case rel => exact ⟨k + 1, _, by omega, by go_num, rfl, HSn.out, ⟨_, rfl⟩⟩
      case measure => simp [intOf]; omega
    · obtain rfl : k = n := by omega
      have hsd : s = D := by rw [HSD.out, HD.out]
      subst hsd
      obtain ⟨z1, z2, z3⟩ := HZ.out
      obtain ⟨c0, c1, c2⟩ := HC4.out
      go_wp2_with fail
      go_ret2
      exact ⟨by show Ending.returned (.tuple #[.int .i64 (A - B), .int .i64 0]) = _; rw [HCV.out], HB4.out.drewN _⟩
end Go.Proofs.Ytdlnjalkbgkhdaa
