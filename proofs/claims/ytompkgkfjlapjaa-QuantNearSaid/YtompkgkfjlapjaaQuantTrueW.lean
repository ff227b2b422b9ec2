/- The walk of QuantTrue. Condition: rows within the reach. -/
import Derived.Test.YtompkgkfjlapjaaAl
set_option linter.unusedSimpArgs false
set_option linter.unusedVariables false
namespace Go.Proofs.Ytompkgkfjlapjaa.quantTrue
open Go.RowKit Go.Proofs.Ytompkgkfjlapjaa
theorem low_at {xs : List Int} {l : List Rk} (h : Low xs 0 l) (k : Nat) (hk : k < l.length) :
    cnt (l.take (k + 1)) ≤ cle xs (l.getD k default).N ∧ clt xs (l.getD k default).N + 1 ≤ cnt (l.take (k + 1)) + (l.getD k default).More ∧ cnt (l.take (k + 1)) + (l.getD k default).More ≤ xs.length ∧ (l.getD k default).N ∈ xs := by
  have e : l = l.take k ++ l.getD k default :: l.drop (k + 1) := by
    have h1 : l.drop k = l.getD k default :: l.drop (k + 1) := by
      rw [List.drop_eq_getElem_cons hk, List.getD_eq_getElem?_getD, List.getElem?_eq_getElem hk]; rfl
    rw [← h1, List.take_append_drop]
  rw [cnt_succ l k hk]
  rw [e, low_app] at h
  obtain ⟨-, a, b, c, d, -⟩ := h
  have hz : (0 : Int) + cnt (l.take k) = cnt (l.take k) := by omega
  rw [hz] at a b c
  exact ⟨a, b, c, d⟩
theorem cle_clt (xs : List Int) (v : Int) : cle xs v = clt xs v + (xs.count v : Nat) := by
  unfold cle clt
  induction xs with
  | nil => rfl
  | cons x xs ih =>
    rw [List.countP_cons, List.countP_cons, List.count_cons]
    by_cases h1 : x < v
    · have : ¬ x = v := by omega
      simp [show x ≤ v by omega, h1, this]; omega
    · by_cases h2 : x = v
      · simp [h2]; omega
      · simp [show ¬ x ≤ v by omega, h1, h2]; omega
theorem same_pos {xs : List Int} {v : Int} (h : v ∈ xs) : clt xs v + 1 ≤ cle xs v := by
  rw [cle_clt]
  have := List.count_pos_iff.2 h
  omega
set_option maxHeartbeats 1600000 in
theorem run (p : Int) (v : Value) (zs : List Int) (w : World) (h : Rd w v zs) (hr : zs.length * 8 ≤ 140737488351232) :
    Calls Try.prog 3 #[.int .i64 p, v] w fun e w' => e = .returned (.bool true) ∧ Below w.heap.size w w' := by
  obtain ⟨a, cap, rfl, hlc, hcm, hop⟩ := h.open
  have HR := Lib.hid h
  have HOP := Lib.hid hop
  generalize hn : zs.length = n at *
  have HN := Lib.hid hn
  have hnb : n ≤ 17592186043904 := by omega
  clear h hop hn hr
  go_enter Try.func3, Try.ntmps3
  go_wp2_with fail
  refine (alive_any w).mono ?_
  rintro e w1 ⟨rfl, hb1⟩
  have HB1 := Lib.hid hb1
  have HAL := Lib.hid (all_any p _ zs w1 (HR.out.below hb1 (Nat.le_refl _)))
  clear hb1
  go_wp2_with fail
  refine HAL.out.mono ?_
  rintro e w2 ⟨hb2, ⟨-, -, l, v', -, rfl, ho, hinv, hl4, hc4⟩ | ⟨-, er, hne, rfl⟩⟩
  · have HB2 := Lib.hid (HB1.out.trans (hb2.mono HB1.out.size))
    obtain ⟨a', cap', rfl, -⟩ := ho.open
    generalize hln : l.length = m at *
    have HO := Lib.hid ho
    have HI := Lib.hid hinv
    have HLN := Lib.hid hln
    have HC4 := Lib.hid hc4
    clear hb2 ho hinv hln hc4 HAL
    go_wp2_with fail
    go_loopw [26, 7] (fun iv lv wr => ∃ k : Nat, k ≤ m ∧ iv = .int .i64 k ∧ lv = .int .i64 (cnt (l.take k)) ∧ Hid (Below w2.heap.size w2 wr)) (fun iv _ _ => m - (intOf iv).toNat)
    case atStart => exact ⟨0, Nat.zero_le _, rfl, rfl, Below.refl _ _⟩
    case round =>
      obtain ⟨k, hk, rfl, rfl, HB⟩ := hrel
      by_cases hkm : k < m
      · obtain ⟨g, rfl, -, hgs, hcell⟩ := (HO.out.below HB.out (Nat.le_refl _)).at (show 0 < m by omega)
        obtain ⟨c0, c1, c2⟩ := hcell k hkm
        have hkl : k < l.length := by rw [HLN.out]; exact hkm
        have e1 := cnt_succ l k hkl
        have b1 := cnt_take_le HI.out.gap k
        have b2 := cnt_take_le HI.out.gap (k + 1)
        have b3 := HC4.out
        have b4 := HI.out.more _ (getD_mem l k hkl)
        obtain ⟨q1, q2, q3, q4⟩ := low_at HI.out.low k hkl
        have q5 := same_pos q4
        rw [HN.out] at q3
        generalize l.getD k default = r at *
        obtain ⟨s', hs'⟩ : ∃ s', cnt (l.take (k + 1)) = s' := ⟨_, rfl⟩
        have x1 : IntKind.i64.wrap (cnt (l.take k) + r.Gap) = s' := by rw [IntKind.wrap_i64]; omega
        rw [hs'] at q1 q2 q3 b2
        have HS' := Lib.hid hs'
        have HQ : Hid (s' ≤ cle zs r.N ∧ clt zs r.N + 1 ≤ s' + r.More ∧ s' + r.More ≤ n ∧ clt zs r.N + 1 ≤ cle zs r.N ∧ 0 ≤ s' ∧ 0 ≤ r.More) := ⟨q1, q2, q3, q5, b2.1, b4⟩
        clear hs' e1 b1 b2 b3 b4 q1 q2 q3 q4 q5 hcell hkl
        generalize cnt (l.take k) = s at *
        have hbs := HB.out.size
        go_wp2_with fail
        have HCN : Hid ((wr.alloc (.cells #[.int .i64 r.N, .int .i64 r.Gap, .int .i64 r.More] 29)).cell? ⟨wr.heap.size, 0, none⟩ = some (.int .i64 r.N) ∧ (wr.alloc (.cells #[.int .i64 r.N, .int .i64 r.Gap, .int .i64 r.More] 29)).cell? ⟨wr.heap.size, 2, none⟩ = some (.int .i64 r.More)) := by
          refine ⟨?_, ?_⟩ <;> (rw [cell_of_row _ _ _ _ 29 (0, 0) (heap_alloc_new wr _)]; rfl)
        have HBX : Hid (Below w2.heap.size w2 (wr.alloc (.cells #[.int .i64 r.N, .int .i64 r.Gap, .int .i64 r.More] 29))) := HB.out.alloc hbs _
        obtain ⟨wx, hwx⟩ : ∃ wx, wr.alloc (.cells #[.int .i64 r.N, .int .i64 r.Gap, .int .i64 r.More] 29) = wx := ⟨_, rfl⟩
        obtain ⟨B, hB⟩ : ∃ B, wr.heap.size = B := ⟨_, rfl⟩
        rw [hwx] at HCN HBX ⊢
        rw [hB] at HCN ⊢
        clear hwx hB c0 c1 c2 x1 hgs hbs
        go_loop [36, 10, 11] (fun jv lv sv => ∃ (j : Nat) (a b : Int), j ≤ n ∧ jv = .int .i64 j ∧ lv = .int .i64 a ∧ sv = .int .i64 b ∧ 0 ≤ a ∧ 0 ≤ b ∧ a + b ≤ j ∧ Hid (a = clt (zs.take j) r.N ∧ a + b = cle (zs.take j) r.N)) (fun jv _ _ => n - (intOf jv).toNat)
        case atStart => exact ⟨0, 0, 0, Nat.zero_le _, rfl, rfl, rfl, by omega, by omega, by omega, by rw [List.take_zero]; exact ⟨rfl, rfl⟩⟩
        case round =>
          obtain ⟨j, a2, b2, hj, rfl, rfl, rfl, ha2, hb2, hab, HJ⟩ := hrel
          obtain ⟨cN, cM⟩ := HCN.out
          by_cases hjn : j < n
          · obtain ⟨b, off, rfl, hb, hc⟩ := HOP.out j hjn
            have d0 : wx.cell? ⟨b, off + j, none⟩ = some (.int .i64 (zs.getD j 0)) := (World.cell?_of_block ((HB2.out.trans (HBX.out.mono HB2.out.size)).block b hb)).trans (hc j hjn)
            have hT := take_one zs j (by rw [HN.out]; exact hjn)
            have HJN : Hid (clt (zs.take (j + 1)) r.N = a2 + (if zs.getD j 0 < r.N then 1 else 0) ∧ cle (zs.take (j + 1)) r.N = a2 + b2 + if zs.getD j 0 ≤ r.N then 1 else 0) := by
              obtain ⟨y1, y2⟩ := HJ.out
              rw [hT, clt_snoc, cle_snoc, ← y1, ← y2]; exact ⟨rfl, rfl⟩
            clear hc hT
            generalize zs.getD j 0 = x at *
            rcases Int.lt_trichotomy x r.N with hx | hx | hx
            · have u1 : decide (x < r.N) = true := decide_eq_true hx
              have u2 : (x == r.N) = false := by rw [beq_eq_false_iff_ne]; omega
              have HJ2 : Hid (a2 + 1 = clt (zs.take (j + 1)) r.N ∧ a2 + 1 + b2 = cle (zs.take (j + 1)) r.N) := by
                obtain ⟨y1, y2⟩ := HJN.out
                rw [if_pos hx] at y1
                rw [if_pos (by omega)] at y2
                exact ⟨y1.symm, by omega⟩
              generalize r.N = NN at *
              go_wp2_with fail
              go_round
              case rel => exact ⟨j + 1, _, _, by omega, by go_num, rfl, rfl, by omega, by omega, by omega, HJ2.out⟩
              case measure => simp [intOf]; omega
            · have u1 : decide (x < r.N) = false := decide_eq_false (by omega)
              have u2 : (x == r.N) = true := by rw [beq_iff_eq]; exact hx
              have HJ2 : Hid (a2 = clt (zs.take (j + 1)) r.N ∧ a2 + (b2 + 1) = cle (zs.take (j + 1)) r.N) := by
                obtain ⟨y1, y2⟩ := HJN.out
                rw [if_neg (by omega)] at y1
                rw [if_pos (by omega)] at y2
                exact ⟨by omega, by omega⟩
              clear hx
              generalize r.N = NN at *
              go_wp2_with fail
              go_round
              case rel => exact ⟨j + 1, _, _, by omega, by go_num, rfl, rfl, by omega, by omega, by omega, HJ2.out⟩
              case measure => simp [intOf]; omega
            · have u1 : decide (x < r.N) = false := decide_eq_false (by omega)
              have u2 : (x == r.N) = false := by rw [beq_eq_false_iff_ne]; omega
              have HJ2 : Hid (a2 = clt (zs.take (j + 1)) r.N ∧ a2 + b2 = cle (zs.take (j + 1)) r.N) := by
                obtain ⟨y1, y2⟩ := HJN.out
                rw [if_neg (by omega)] at y1
                rw [if_neg (by omega)] at y2
                exact ⟨by omega, by omega⟩
              generalize r.N = NN at *
              go_wp2_with fail
              go_round
              case rel => exact ⟨j + 1, _, _, by omega, by go_num, rfl, rfl, by omega, by omega, by omega, HJ2.out⟩
              case measure => simp [intOf]; omega
          · obtain rfl : j = n := by omega
            obtain ⟨y1, y2⟩ := HJ.out
            rw [List.take_of_length_le (by rw [HN.out]; exact Nat.le_refl _)] at y1 y2
            obtain ⟨q1, q2, q3, q5, q6, q7⟩ := HQ.out
            have u1 : (b2 == 0) = false := by rw [beq_eq_false_iff_ne]; omega
            have x2 : IntKind.i64.wrap (a2 + b2) = a2 + b2 := by rw [IntKind.wrap_i64]; omega
            have x3 : IntKind.i64.wrap (a2 + 1) = a2 + 1 := by rw [IntKind.wrap_i64]; omega
            have x4 : IntKind.i64.wrap (s' + r.More) = s' + r.More := by rw [IntKind.wrap_i64]; omega
            have u2 : decide (a2 + b2 < s') = false := decide_eq_false (by omega)
            have u3 : decide (s' + r.More < a2 + 1) = false := decide_eq_false (by omega)
            clear y1 y2 q1 q2 q3 q5 q6 q7
            go_wp2_with fail
            exact ⟨⟨k + 1, by omega, by go_num, by rw [HS'.out], HBX.out⟩, by simp [intOf]; omega⟩
      · obtain rfl : k = m := by omega
        go_wp2_with fail
        go_ret
        exact ⟨rfl, HB2.out.trans (HB.out.mono HB2.out.size)⟩
  · have HB2 := Lib.hid (HB1.out.trans (hb2.mono HB1.out.size))
    have hn1 : ((er : Int) != 0) = true := by rw [bne_iff_ne]; omega
    clear hb2 hne HAL
    go_wp2_with fail
    go_ret
    exact ⟨rfl, HB2.out⟩
theorem walk (p : Int) (a1 : Option Addr) (len1 cap1 : Nat) (z1 : List Int) (w : World) (w0 : (Lit.int .i64 p).wf = true) (w1 : IsRow .i64 w a1 len1 cap1 z1) (r1 : len1 * 8 ≤ 140737488351232) :
    Calls Try.prog 3 #[.int .i64 p, .slice a1 len1 cap1] w fun e w' => e = .returned (.bool true) ∧ Below w.heap.size w w' := by
  obtain ⟨h1, g1⟩ := w1.rd
  have hl : (z1.take len1).length = len1 := by
    obtain ⟨a', c', he, -⟩ := h1.open
    injection he with _ h5 _
    exact h5.symm
  exact run p _ _ w h1 (by rw [hl]; exact r1)
end Go.Proofs.Ytompkgkfjlapjaa.quantTrue
