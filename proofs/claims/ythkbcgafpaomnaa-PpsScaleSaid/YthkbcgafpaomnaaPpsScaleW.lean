/- The walk of PpsScale. Condition: the row's own reach of the slice. -/
import Derived.Test.YthkbcgafpaomnaaAlive
import Derived.Test.YthkbcgafpaomnaaLaw2
import Derived.Test.YthkbcgafpaomnaaClone
set_option linter.unusedSimpArgs false
set_option linter.unusedVariables false
namespace Go.Proofs.Ythkbcgafpaomnaa.ppsScale
open Go.RowKit Go.Proofs.Ythkbcgafpaomnaa
def Ok (zs : List Int) (many start : Int) : Prop := Good zs many ∧ 0 ≤ start ∧ start < zs.sum
def Any (zs : List Int) (many start : Int) (w : World) (e : Ending) (w' : World) : Prop :=
  ∃ (v : Value) (c : Int) (l : List Int), e = .returned (.tuple #[v, .int .i64 c]) ∧ Rd w' v l ∧ Below w.heap.size w w' ∧ ((c = 0 ∧ Ok zs many start ∧ l = tk zs many start zs.sum zs.length) ∨ 0 < c)
theorem take_any (v : Value) (zs : List Int) (many start : Int) (w : World) (h : Rd w v zs) : Calls Try.prog 8 #[v, .int .i64 many, .int .i64 start] w (Any zs many start w) := by
  by_cases hg : Ok zs many start
  · exact (take_good v zs many start w h hg.1 hg.2.1 hg.2.2).mono fun e w' ⟨v', h1, h2, h3⟩ => ⟨v', 0, _, h1, Rd.own h2, h3, .inl ⟨rfl, hg, rfl⟩⟩
  · exact (take_bad v zs many start w h hg).mono fun e w' ⟨c, h1, h2, h3⟩ => ⟨_, c, [], h1, h3 ▸ Rd.nil w, h3 ▸ Below.refl _ _, .inr h2⟩
theorem cnt_scale (start sum x by' : Int) (hs : 0 < sum) (hb : 0 < by') : cnt (start * by') (sum * by') (x * by') = cnt start sum x := by
  have hsb : 0 < sum * by' := Int.mul_pos hs hb
  apply cnt_of hsb
  · have := Int.mul_le_mul_of_nonneg_right (cnt_ge (start := start) (x := x) hs) (Int.le_of_lt hb)
    rw [Int.add_mul, Int.mul_assoc] at this
    exact this
  · intro j hj
    have := Int.mul_lt_mul_of_pos_right ((lt_cnt hs j).1 hj) hb
    rw [Int.add_mul, Int.mul_assoc] at this
    exact this
def Sc (zs : List Int) (by' : Int) (k : Nat) (c : List Int) : Prop := c.length = zs.length ∧ (∀ j, j < k → c.getD j 0 = wrap64 (zs.getD j 0 * by')) ∧ ∀ j, k ≤ j → c.getD j 0 = zs.getD j 0
theorem Sc.step {zs : List Int} {by' : Int} {k : Nat} {c : List Int} (h : Sc zs by' k c) (hk : k < zs.length) : Sc zs by' (k + 1) (c.set k (wrap64 (c.getD k 0 * by'))) := by
  refine ⟨by simpa using h.1, fun j hj => ?_, fun j hj => ?_⟩
  · by_cases e : j = k
    · subst e
      rw [h.2.2 j (Nat.le_refl _)]
      simp [List.getD_eq_getElem?_getD, List.getElem?_set, h.1, hk]
    · rw [← h.2.1 j (by omega)]
      simp [List.getD_eq_getElem?_getD, List.getElem?_set, show ¬ k = j from fun h => e h.symm]
  · rw [← h.2.2 j (by omega)]
    simp [List.getD_eq_getElem?_getD, List.getElem?_set, show ¬ k = j by omega]
theorem Sc.all {zs : List Int} {by' : Int} {c : List Int} (h : Sc zs by' zs.length c) (hz : ∀ x ∈ zs, 0 ≤ x ∧ x ≤ 1048576) (h1 : 1 ≤ by') (h2 : by' ≤ 50) : c = zs.map (· * by') := by
  apply List.ext_getElem (by simpa using h.1)
  intro i hi hi'
  have hl := h.1
  have := h.2.1 i (by omega)
  have hm := hz (zs[i]'(by omega)) (by simp)
  rw [List.getD_eq_getElem?_getD, List.getD_eq_getElem?_getD, List.getElem?_eq_getElem hi, List.getElem?_eq_getElem (by omega)] at this
  simp only [Option.getD_some] at this
  rw [this, List.getElem_map]
  have ha : 0 ≤ zs[i]'(by omega) * by' := Int.mul_nonneg hm.1 (by omega)
  have hb : zs[i]'(by omega) * by' ≤ 1048576 * 50 := Int.mul_le_mul hm.2 h2 (by omega) (by omega)
  exact IntWalk.wrap64_in _ (by omega)
theorem sum_map (zs : List Int) (b : Int) : (zs.map (· * b)).sum = zs.sum * b := by
  induction zs with
  | nil => simp
  | cons a l ih => simp [ih, Int.add_mul]
theorem L_scale (zs : List Int) (many start b : Int) (hs : 0 < zs.sum) (hb : 0 < b) (k : Nat) : L (zs.map (· * b)) many (start * b) (zs.map (· * b)).sum k = L zs many start zs.sum k := by
  unfold L E
  rw [sum_map, ← List.map_take, sum_map, ← cnt_scale start zs.sum _ b hs hb, Int.mul_assoc, Int.mul_comm b many, ← Int.mul_assoc]
theorem tk_scale (zs : List Int) (many start b : Int) (hs : 0 < zs.sum) (hb : 0 < b) (k : Nat) : tk (zs.map (· * b)) many (start * b) (zs.map (· * b)).sum k = tk zs many start zs.sum k := by
  induction k with
  | zero => rfl
  | succ k ih => simp only [tk, ih, L_scale zs many start b hs hb]
theorem walk_out (v : Value) (zs : List Int) (many start b : Int) (w : World) (hx : ¬ (1 ≤ b ∧ b ≤ 50 ∧ start ≤ 1073741824 ∧ 0 ≤ start)) :
    Calls Try.prog 4 #[v, .int .i64 many, .int .i64 start, .int .i64 b] w fun e w' => e = .returned (.bool true) ∧ Below w.heap.size w w' := by
  by_cases h1 : b < 1
  · clear hx
    go_enter Try.func4, Try.ntmps4
    go_wp2_with fail
    refine (alive_any _).mono ?_
    rintro e w1 ⟨rfl, hb1⟩
    go_wp2_with fail
    go_ret
    exact ⟨rfl, hb1⟩
  · by_cases h2 : 50 < b
    · clear hx
      go_enter Try.func4, Try.ntmps4
      go_wp2_with fail
      refine (alive_any _).mono ?_
      rintro e w1 ⟨rfl, hb1⟩
      go_wp2_with fail
      go_ret
      exact ⟨rfl, hb1⟩
    · by_cases h3 : 1073741824 < start
      · clear hx
        go_enter Try.func4, Try.ntmps4
        go_wp2_with fail
        refine (alive_any _).mono ?_
        rintro e w1 ⟨rfl, hb1⟩
        go_wp2_with fail
        go_ret
        exact ⟨rfl, hb1⟩
      · have h4 : start < 0 := by omega
        clear hx
        go_enter Try.func4, Try.ntmps4
        go_wp2_with fail
        refine (alive_any _).mono ?_
        rintro e w1 ⟨rfl, hb1⟩
        go_wp2_with fail
        go_ret
        exact ⟨rfl, hb1⟩
set_option maxHeartbeats 800000 in
theorem walk_in (v : Value) (zs : List Int) (many start b : Int) (w : World) (h : Rd w v zs) (hr : zs.length * 8 ≤ 140737488355328) (h1 : 1 ≤ b) (h2 : b ≤ 50) (h3 : start ≤ 1073741824) (h4 : 0 ≤ start) :
    Calls Try.prog 4 #[v, .int .i64 many, .int .i64 start, .int .i64 b] w fun e w' => e = .returned (.bool true) ∧ Below w.heap.size w w' := by
  have HR := Lib.hid h; clear h
  have hsb0 : 0 ≤ start * b := Int.mul_nonneg h4 (by omega)
  have hsb1 : start * b ≤ 1073741824 * 50 := Int.mul_le_mul h3 h2 (by omega) (by omega)
  have hsb2 : start * b ≤ 53687091200 := by omega
  clear hsb1
  go_enter Try.func4, Try.ntmps4
  go_wp2_with fail
  refine (alive_any _).mono ?_
  rintro e w1 ⟨rfl, hb1⟩
  go_wp2_with fail
  refine (clone_any _ zs _ (HR.out.below hb1 (Nat.le_refl _)) hr).mono ?_
  rintro e w2 ⟨v2, rfl, hown, hb2⟩
  have hB := hb1.trans (hb2.mono hb1.size)
  clear hb2
  have hrd := Rd.own hown
  obtain ⟨a2, cap2, rfl, hlc2, hcm2, hop2⟩ := hrd.open
  clear hrd hop2
  have HZ := Lib.hid (rfl : zs.length = zs.length)
  generalize hn : zs.length = n at *
  clear HZ
  have HN := Lib.hid hn; clear hn
  go_wp2_with fail
  go_loopw [35] (fun i wr => ∃ (k : Nat) (c : List Int), k ≤ n ∧ i = .int .i64 k ∧ wr.ownsRow w1.heap.size 3 1 (.slice a2 n cap2) n (c.map (Value.int .i64)) ∧ Hid (Sc zs b k c) ∧ Below w.heap.size w wr) (fun i _ => n - (intOf i).toNat)
  case atStart => exact ⟨0, zs, Nat.zero_le _, rfl, hown, ⟨rfl, fun j hj => by omega, fun j hj => rfl⟩, hB⟩
  case round =>
    clear hown hB
    obtain ⟨k, c, hk, rfl, hown, hsc, hbel⟩ := hrel
    by_cases hlt : k < n
    · obtain ⟨g, cap3, hv, _, _, hbg, hg, _⟩ := own_open hown (by omega)
      simp only [Value.slice.injEq] at hv
      obtain ⟨rfl, _, _⟩ := hv
      have c1 := own_get hown k hlt
      have cf := hown.frozenAt k
      have HS := Lib.hid (hsc.out.step (by rw [HN.out]; exact hlt))
      have HO := Lib.hid (own_set hown k (wrap64 (c.getD k 0 * b)))
      have HB := Lib.hid (hbel.setCell (p := ⟨g, k, none⟩) (by show w.heap.size ≤ g; have := hb1.size; omega) (.int .i64 (wrap64 (c.getD k 0 * b))))
      clear hown hsc hbel hbg hg
      generalize c.getD k 0 = x at *
      go_wp2_with fail
      go_roundw
      case rel => exact ⟨k + 1, _, by omega, by go_num, HO.out, HS.out, HB.out⟩
      case measure => simp [intOf]; omega
    · obtain rfl : k = n := by omega
      go_wp2_with fail
      refine (take_any _ zs many start _ (HR.out.below hbel (Nat.le_refl _))).mono ?_
      rintro e w3 ⟨v3, d1, l1, rfl, hr3, hb3, hd1⟩
      have HD1 := Lib.hid hd1; clear hd1
      have HR3 := Lib.hid hr3; clear hr3
      have HRc := Lib.hid ((Rd.own hown).below hb3 (Nat.le_refl _))
      have HB3 := Lib.hid (hbel.trans (hb3.mono hbel.size))
      clear hown hb3 hbel
      go_wp2_with fail
      refine (take_any _ c many (start * b) _ HRc.out).mono ?_
      rintro e w4 ⟨v4, d2, l2, rfl, hr4, hb4, hd2⟩
      have HR3' := Lib.hid (HR3.out.below hb4 (Nat.le_refl _))
      have HB4 := Lib.hid (HB3.out.trans (hb4.mono HB3.out.size))
      have HR4 := Lib.hid hr4
      clear hb4 hr4 HR3 HB3
      rcases HD1.out with ⟨rfl, hok1, hl1⟩ | hc1
      · have HOK := Lib.hid hok1; clear hok1
        have HL1 := Lib.hid hl1; clear hl1
        rcases hd2 with ⟨rfl, hok2, hl2⟩ | hc2
        · have HL : Hid (l1 = l2) := by
            show _ = _
            have hc := Sc.all (by have := hsc.out; rw [← HN.out] at this; exact this) HOK.out.1.2.2.2.1 h1 h2
            rw [HL1.out, hl2, hc, List.length_map, tk_scale zs many start b (by have := HOK.out.2; omega) (by omega)]
          clear hok2 hl2
          go_wp2_with fail
          refine (equal_any _ _ l1 l2 _ HR3'.out HR4.out).mono ?_
          rintro e w5 ⟨rfl, hb5⟩
          have hdl : decide (l1 = l2) = true := by simpa using HL.out
          go_wp2_with fail
          go_ret
          exact ⟨by simp [hdl], HB4.out.trans (hb5.mono HB4.out.size)⟩
        · have hc' : (d2 != 0) = true := by rw [bne_iff_ne]; omega
          go_wp2_with fail
          go_ret
          exact ⟨by simp, HB4.out⟩
      · have hc' : (d1 != 0) = true := by rw [bne_iff_ne]; omega
        clear hd2
        go_wp2_with fail
        go_ret
        exact ⟨by simp, HB4.out⟩
theorem walk (a0 : Option Addr) (len0 cap0 : Nat) (z0 : List Int) (a1 a2 a3 : Int) (w : World) (w0 : IsRow .i64 w a0 len0 cap0 z0) (r0 : len0 * 8 ≤ 140737488351232) (w1 : (Lit.int .i64 a1).wf = true) (w2 : (Lit.int .i64 a2).wf = true) (w3 : (Lit.int .i64 a3).wf = true) :
    Calls Try.prog 4 #[.slice a0 len0 cap0, .int .i64 a1, .int .i64 a2, .int .i64 a3] w fun e w' => e = .returned (.bool true) ∧ Below w.heap.size w w' := by
  have h := w0.rd.1
  by_cases hx : 1 ≤ a3 ∧ a3 ≤ 50 ∧ a2 ≤ 1073741824 ∧ 0 ≤ a2
  · exact walk_in _ _ _ _ _ w h (by rw [List.length_take]; omega) hx.1 hx.2.1 hx.2.2.1 hx.2.2.2
  · exact walk_out _ [] _ _ _ w hx
end Go.Proofs.Ythkbcgafpaomnaa.ppsScale
