/- quant.Find: what it answers. Condition: a summary that is right. -/
import Derived.Test.YthaiopgmncnekaaGreatDoorQuRight
set_option linter.unusedSimpArgs false
set_option linter.unusedVariables false
set_option maxRecDepth 20000
namespace Go.Proofs.YthaiopgmncnekaaGreatDoor.Qu
open Go.RowKit
def dist (pl low : Int) (r : Rk) : Int := max (pl - low) (low + r.More - pl)
def fstep (pl : Int) (s : Int × Int × Int) (r : Rk) : Int × Int × Int :=
  if s.2.1 < 0 ∨ dist pl (s.2.2 + r.Gap) r < s.2.1 then (r.N, dist pl (s.2.2 + r.Gap) r, s.2.2 + r.Gap) else (s.1, s.2.1, s.2.2 + r.Gap)
def fndS (pl : Int) (l : List Rk) : Int × Int × Int := l.foldl (fstep pl) (0, -1, 0)
theorem fndS_snoc (pl : Int) (l : List Rk) (k : Nat) (h : k < l.length) : fndS pl (l.take (k + 1)) = fstep pl (fndS pl (l.take k)) (l.getD k default) := by
  unfold fndS; rw [take_succ l k h, List.foldl_append]; rfl
theorem fndS_low (pl : Int) : ∀ (l : List Rk) (k : Nat), k ≤ l.length → (fndS pl (l.take k)).2.2 = cnt (l.take k)
  | l, 0, _ => by simp [fndS, cnt]
  | l, k + 1, h => by
    have ih := fndS_low pl l k (by omega)
    rw [fndS_snoc pl l k h, cnt_succ l k h, ← ih]
    unfold fstep; split <;> rfl
set_option maxHeartbeats 800000 in
theorem find_out (p pl : Int) (a : Option Addr) (n cap base : Nat) (l : List Rk) (w : World) (h : Own w base (.slice a n cap) l) (hn : l.length = n) (hR : RightP p l) (hF : pl < 1 ∨ cnt l < pl) :
    Calls Tryz.prog 8 #[.int .i64 p, .slice a n cap, .int .i64 pl] w fun e w' => e = .returned (.tuple #[.int .i64 0, .int .i64 3]) ∧ Below w.heap.size w w' := by
  have HR := Lib.hid (right_any p a n cap base l w h hn hR)
  have HC : Hid (∀ w1, Below w.heap.size w w1 → Calls Tryz.prog 15 #[.slice a n cap] w1 fun e w' => e = .returned (.int .i64 (cnt l)) ∧ Below w1.heap.size w1 w') := fun w1 hb =>
    count_any a n cap base l w1 (h.below hb (Nat.le_refl _)) hn hR.gap hR.sum
  clear h hn hR
  obtain ⟨C, hC⟩ : ∃ C, cnt l = C := ⟨_, rfl⟩
  rw [hC] at HC hF
  clear hC
  go_enter Tryz.func8, Tryz.ntmps8
  go_wp2_with fail
  refine HR.out.mono ?_
  rintro e w1 ⟨rfl, hb1⟩
  have HB1 := Lib.hid hb1
  clear hb1 HR
  by_cases h4 : pl < 1
  · have t1 : decide (pl < 1) = true := decide_eq_true h4
    clear hF
    go_wp2_with fail
    go_ret2
    exact ⟨rfl, HB1.out⟩
  · have t1 : decide (pl < 1) = false := decide_eq_false h4
    have t2 : decide (C < pl) = true := decide_eq_true (by omega)
    clear hF h4
    go_wp2_with fail
    refine (HC.out w1 HB1.out).mono ?_
    rintro e w2 ⟨rfl, hb2⟩
    have HB2 := Lib.hid (HB1.out.trans (hb2.mono HB1.out.size))
    clear hb2
    go_wp2_with fail
    go_ret2
    exact ⟨rfl, HB2.out⟩
set_option maxHeartbeats 1600000 in
theorem find_any (p pl : Int) (a : Option Addr) (n cap base : Nat) (l : List Rk) (w : World) (h : Own w base (.slice a n cap) l) (hn : l.length = n) (hR : RightP p l) (hF1 : 1 ≤ pl) (hF2 : pl ≤ cnt l) :
    Calls Tryz.prog 8 #[.int .i64 p, .slice a n cap, .int .i64 pl] w fun e w' => e = .returned (.tuple #[.int .i64 (fndS pl l).1, .int .i64 0]) ∧ Below w.heap.size w w' := by
  have HR := Lib.hid (right_any p a n cap base l w h hn hR)
  have HC : Hid (∀ w1, Below w.heap.size w w1 → Calls Tryz.prog 15 #[.slice a n cap] w1 fun e w' => e = .returned (.int .i64 (cnt l)) ∧ Below w1.heap.size w1 w') := fun w1 hb =>
    count_any a n cap base l w1 (h.below hb (Nat.le_refl _)) hn hR.gap hR.sum
  have HT : Hid (∀ k, 0 ≤ cnt (l.take k) ∧ cnt (l.take k) ≤ cnt l) := fun k => cnt_take_le hR.gap k
  have HO := Lib.hid h
  have HN := Lib.hid hn
  have HRP := Lib.hid hR
  have hn4 : n ≤ 400 := by have := hR.len; omega
  have hpl : pl ≤ 1099511627776 := by have := hR.sum; omega
  have t1 : decide (pl < 1) = false := decide_eq_false (by omega)
  have t2 : decide (cnt l < pl) = false := decide_eq_false (by omega)
  obtain ⟨C, hC⟩ : ∃ C, cnt l = C := ⟨_, rfl⟩
  rw [hC] at HC t2
  clear h hn hR hF2 hC
  go_enter Tryz.func8, Tryz.ntmps8
  go_wp2_with fail
  refine HR.out.mono ?_
  rintro e w1 ⟨rfl, hb1⟩
  have HB1 := Lib.hid hb1
  clear hb1 HR
  go_wp2_with fail
  refine (HC.out w1 HB1.out).mono ?_
  rintro e w2 ⟨rfl, hb2⟩
  have HB2 := Lib.hid (HB1.out.trans (hb2.mono HB1.out.size))
  clear hb2 HB1 HC
  go_wp2_with fail
  clear t1 t2
  go_loopw [8, 9, 10, 30] (fun bv fv lv iv wr => ∃ (k : Nat) (b f s : Int), k ≤ n ∧ iv = .int .i64 k ∧ bv = .int .i64 b ∧ fv = .int .i64 f ∧ lv = .int .i64 s ∧ Hid (fndS pl (l.take k) = (b, f, s)) ∧ -1 ≤ f ∧ f ≤ 4398046511104 ∧ Hid (Below w.heap.size w wr)) (fun _ _ _ iv _ => n - (intOf iv).toNat)
  case atStart => exact ⟨0, 0, -1, 0, Nat.zero_le _, rfl, rfl, rfl, rfl, rfl, by omega, by omega, HB2.out⟩
  case round =>
    clear HB2
    obtain ⟨k, b, f, s, hk, rfl, rfl, rfl, rfl, HS, hf1, hf2, HB⟩ := hrel
    by_cases hkn : k < n
    · obtain ⟨g, rfl, -, hgs, hcell⟩ := (HO.out.below HB.out (Nat.le_refl _)).at (show 0 < n by omega)
      obtain ⟨c0, c1, c2⟩ := hcell k hkn
      have hkl : k < l.length := by rw [HN.out]; exact hkn
      have hm := getD_mem l k hkl
      have e0 := fndS_low pl l k (by omega)
      rw [HS.out] at e0
      have e1 := cnt_succ l k hkl
      have b1 := HT.out k
      have b2 := HT.out (k + 1)
      have b3 := HRP.out.gap _ hm
      have b4 := HRP.out.more _ hm
      have b5 := HRP.out.sum
      have HSn : Hid (fndS pl (l.take (k + 1)) = fstep pl (b, f, s) (l.getD k default)) := by show _ = _; rw [fndS_snoc pl l k hkl, HS.out]
      have hs : s = cnt (l.take k) := e0
      generalize l.getD k default = r at *
      obtain ⟨s', hs'⟩ : ∃ s', s + r.Gap = s' := ⟨_, rfl⟩
      have hd : dist pl s' r = max (pl - s') (s' + r.More - pl) := rfl
      have hb6 : 0 ≤ s' ∧ s' ≤ 1099511627776 := by omega
      have x1 : IntKind.i64.wrap (s + r.Gap) = s' := by rw [IntKind.wrap_i64]; omega
      obtain ⟨d1, hd1⟩ : ∃ d, pl - s' = d := ⟨_, rfl⟩
      obtain ⟨d2, hd2⟩ : ∃ d, s' + r.More = d := ⟨_, rfl⟩
      obtain ⟨d3, hd3⟩ : ∃ d, d2 - pl = d := ⟨_, rfl⟩
      obtain ⟨d, hdd⟩ : ∃ d, max d1 d3 = d := ⟨_, rfl⟩
      have x2 : IntKind.i64.wrap (pl - s') = d1 := by rw [IntKind.wrap_i64]; omega
      have x3 : IntKind.i64.wrap (s' + r.More) = d2 := by rw [IntKind.wrap_i64]; omega
      have x4 : IntKind.i64.wrap (d2 - pl) = d3 := by rw [IntKind.wrap_i64]; omega
      have emax := fun (w : World) => max2_run d1 d3 w
      rw [hdd] at emax
      have hd0 : 0 ≤ d ∧ d ≤ 4398046511104 := by omega
      rw [hd2] at hd
      rw [hd1, hd3, hdd] at hd
      have HD := Lib.hid hd
      have HSS := Lib.hid hs'
      have hbs := HB.out.size
      clear hcell hm e0 e1 b1 b2 b3 b4 b5 hs hd hs' hb6 hd1 hd2 hd3 hdd hkl
      by_cases hgo : f < 0 ∨ d < f
      · have HFS : Hid (fndS pl (l.take (k + 1)) = (r.N, d, s')) := by
          show _ = _
          rw [HSn.out]; unfold fstep
          show (if f < 0 ∨ dist pl (s + r.Gap) r < f then _ else _) = _
          rw [HSS.out, HD.out, if_pos hgo]
        by_cases hf0 : f < 0
        · have u1 : decide (f < 0) = true := decide_eq_true hf0
          clear hgo
          go_wp2_with fail
          exact ⟨⟨k + 1, _, _, _, by omega, by go_num, rfl, rfl, rfl, HFS.out, by omega, by omega, HB.out.alloc hbs _⟩, by simp [intOf]; omega⟩
        · have u1 : decide (f < 0) = false := decide_eq_false hf0
          have u2 : decide (d < f) = true := decide_eq_true (by omega)
          clear hgo
          go_wp2_with fail
          exact ⟨⟨k + 1, _, _, _, by omega, by go_num, rfl, rfl, rfl, HFS.out, by omega, by omega, HB.out.alloc hbs _⟩, by simp [intOf]; omega⟩
      · have HFS : Hid (fndS pl (l.take (k + 1)) = (b, f, s')) := by
          show _ = _
          rw [HSn.out]; unfold fstep
          show (if f < 0 ∨ dist pl (s + r.Gap) r < f then _ else _) = _
          rw [HSS.out, HD.out, if_neg hgo]
        have u1 : decide (f < 0) = false := decide_eq_false (by omega)
        have u2 : decide (d < f) = false := decide_eq_false (by omega)
        clear hgo
        go_wp2_with fail
        exact ⟨⟨k + 1, _, _, _, by omega, by go_num, rfl, rfl, rfl, HFS.out, by omega, by omega, HB.out.alloc hbs _⟩, by simp [intOf]; omega⟩
    · obtain rfl : k = n := by omega
      have HE : Hid ((fndS pl l).1 = b) := by
        have := HS.out
        rw [List.take_of_length_le (by rw [HN.out]; exact Nat.le_refl _)] at this
        show _ = _
        rw [this]
      go_wp2_with fail
      go_ret2
      exact ⟨by rw [HE.out]; rfl, HB.out⟩
end Go.Proofs.YthaiopgmncnekaaGreatDoor.Qu
