/- The walk of CyclesFoata. No condition. -/
import Derived.Test.YthnalgkojoeniaaFoataL
import Derived.RegionTactic
import Derived.BigRegion
import Derived.Deep.RegionLaw
import Derived.Deep.DeepCutAuto
import Derived.Deep.CutRange
set_option linter.unusedSimpArgs false
set_option linter.unusedVariables false
namespace Go.Proofs.Ythnalgkojoeniaa.cyclesFoata
open Go.RowKit Go.Proofs.Ythnalgkojoeniaa
theorem dfact : ∀ (n : Nat) (hn : n ≤ 6) (w : World), Calls Try.prog 16 #[.int .i64 n] w fun e w' => e = .returned (.int .i64 (fct n : Nat)) ∧ w = w'
  | 0, _, w => by
    go_enter Try.func16, Try.ntmps16
    go_wp2_with fail
    go_ret
    exact ⟨rfl, rfl⟩
  | 1, _, w => by
    go_enter Try.func16, Try.ntmps16
    go_wp2_with fail
    go_ret
    exact ⟨rfl, rfl⟩
  | n + 2, hn, w => by
    have ih := Lib.hid (dfact (n + 1) (by omega) w)
    have f1 : decide (((n + 2 : Nat) : Int) < 2) = false := decide_eq_false (by omega)
    have e1 : ((n + 2 : Nat) : Int) - 1 = ((n + 1 : Nat) : Int) := by omega
    have e2 : ((n + 2 : Nat) : Int) * (fct (n + 1) : Int) = ((fct (n + 2) : Nat) : Int) := by
      rw [show fct (n + 2) = fct (n + 1) * (n + 2) from rfl, Int.natCast_mul, Int.mul_comm]
    have hb : fct (n + 1) ≤ 720 ∧ fct (n + 2) ≤ 720 := by
      match n, hn with
      | 0, _ => decide
      | 1, _ => decide
      | 2, _ => decide
      | 3, _ => decide
      | 4, _ => decide
    generalize fct (n + 2) = B at *
    generalize fct (n + 1) = A at *
    have hn2 : n + 2 ≤ 6 := hn
    generalize n + 2 = m at *
    generalize n + 1 = k at *
    go_enter Try.func16, Try.ntmps16
    go_wp2_with fail
    refine ih.out.mono ?_
    rintro e w' ⟨rfl, rfl⟩
    go_wp2_with fail
    go_ret
    exact ⟨rfl, rfl⟩
theorem OC.other {w : World} {base g n cap : Nat} {f : Nat → Nat} (h : OC w base g n cap f) {a : Addr} (ha : a.block ≠ g) (u : Value) : OC (w.setCell a u) base g n cap f := by
  refine ⟨h.1, ?_⟩
  rcases h.2 with hn | ⟨g', cap', cur, heq, hbs, hgg, rest⟩
  · exact .inl hn
  · refine .inr ⟨g', cap', cur, heq, hbs, ?_, rest⟩
    cases heq
    rw [Below.heap_setCell _ _ _ _ (Ne.symm ha)]; exact hgg
theorem mk_run (N : Nat) (hN : N ≤ 7) (w : World) : (Instr.makeSlice 22 (.int .i64 (N : Int)) (.int .i64 (N : Int))).run Try.prog w = .ok (.slice (some ⟨w.heap.size, 0, none⟩) N N) (w.alloc (.cells (madeCells #[.int .i64 0] N) 3)) := by
  obtain ⟨i0, hinfo, hz0, hz1, hz2⟩ := info_parts Try.info3t
  have := run_make (P := Try.prog) w 22 3 i0 (.int .i64 0) Try.underlying22 hinfo hz0 .i64 .i64 (N : Int) (N : Int) (by omega) (Int.le_refl _) (by rw [hz2]; omega) (by omega)
  rw [Int.toNat_natCast, hz1, Nat.mul_one] at this
  exact this
theorem oc_new (w : World) (N : Nat) (hN : N ≤ 7) : OC (w.alloc (.cells (madeCells #[.int .i64 0] N) 3)) w.heap.size w.heap.size N N (fun _ => 0) :=
  OC.made (World.ownsRow_lit w _ N (Nat.le_refl _) (by unfold maxLen; omega) (by rw [size_madeCells]; simp))
theorem two_made (w : World) (N : Nat) (hN : N ≤ 7) (W : World) (hW : W = ((w.alloc (.cells (madeCells #[.int .i64 0] N) 3)).alloc (.cells (madeCells #[.int .i64 0] N) 3)).drew) :
    Below w.heap.size w W ∧ OC W w.heap.size w.heap.size N N (fun _ => 0) ∧ OC W (w.heap.size + 1) (w.heap.size + 1) N N (fun _ => 0) := by
  subst hW
  have e : (w.alloc (.cells (madeCells #[.int .i64 0] N) 3)).heap.size = w.heap.size + 1 := by simp
  have b1 := (Below.refl w.heap.size w).alloc (Nat.le_refl _) (.cells (madeCells #[.int .i64 0] N) 3)
  have b2 := (Below.refl (w.heap.size + 1) (w.alloc (.cells (madeCells #[.int .i64 0] N) 3))).alloc (by rw [e]; exact Nat.le_refl _) (.cells (madeCells #[.int .i64 0] N) 3)
  refine ⟨(b1.trans (b2.mono (by omega))).drew, (oc_new w N hN).keepAt b2.drew (by omega), ?_⟩
  have := oc_new (w.alloc (.cells (madeCells #[.int .i64 0] N) 3)) N hN
  rw [e] at this
  exact this
theorem tab_succ (g : Nat → Nat) (r k : Nat) : (tab g (r + 1)).count k = (tab g r).count k + if k = g r then 1 else 0 := by
  unfold tab
  rw [List.range_succ, List.map_append, List.count_append]
  simp only [List.map_cons, List.map_nil, List.count_singleton]
  by_cases e : k = g r
  · subst e; simp
  · rw [if_neg e]
    rw [if_neg (by simpa using fun h : g r = k => e h.symm)]
theorem tab_le (g : Nat → Nat) (r k : Nat) : (tab g r).count k ≤ r := by
  have := List.count_le_length (a := k) (l := tab g r)
  simpa [tab] using this
def CT (g : Nat → Nat) (r k : Nat) : Nat := (tab g r).count k
theorem CT_step (g : Nat → Nat) (r x : Nat) (hx : g r = x) (k : Nat) : (if k = x then CT g r x + 1 else CT g r k) = CT g (r + 1) k := by
  show _ = (tab g (r + 1)).count k
  rw [tab_succ, hx]
  by_cases e : k = x
  · subst e; rw [if_pos rfl, if_pos rfl]; rfl
  · rw [if_neg e, if_neg e]; rfl
theorem okr_of {n r : Nat} (hn : n ≤ 6) (hr : r < fct n) : rq r n = 0 ∧ OkP (atL n r) ∧ (atL n r).length = n ∧ nr n r ≤ n := by
  have h := all_ok hn
  unfold chk at h
  rw [Bool.and_eq_true] at h
  have := List.all_eq_true.1 h.1 r (List.mem_range.2 hr)
  unfold okr at this
  simp only [Bool.and_eq_true, decide_eq_true_eq] at this
  exact ⟨this.1.1.1, this.1.1.2, this.1.2, this.2⟩
theorem same_counts {n k : Nat} (hn : n ≤ 6) (hk : k ≤ n) : CT (nc n) (fct n) k = CT (nr n) (fct n) k := by
  have h := all_ok hn
  unfold chk at h
  rw [Bool.and_eq_true] at h
  exact eq_of_beq (List.all_eq_true.1 h.2 k (List.mem_range.2 (by omega)))
theorem fct_le {n : Nat} (hn : n ≤ 6) : fct n ≤ 720 := by
  match n, hn with
  | 0, _ => decide
  | 1, _ => decide
  | 2, _ => decide
  | 3, _ => decide
  | 4, _ => decide
  | 5, _ => decide
  | 6, _ => decide
/-- The records among the first i. -/
def rs (n r i : Nat) : Nat × Int := ((atL n r).take i).foldl recStep (0, -1)
theorem rs_succ {n r i : Nat} (h : i < (atL n r).length) : rs n r (i + 1) = recStep (rs n r i) ((atL n r).getD i 0) := by
  unfold rs
  rw [List.take_add_one, List.getElem?_eq_getElem h, List.foldl_append, List.getD_eq_getElem?_getD, List.getElem?_eq_getElem h]
  rfl
theorem rs_le (n r : Nat) : ∀ i, (rs n r i).1 ≤ i
  | 0 => Nat.zero_le _
  | i + 1 => by
    have ih := rs_le n r i
    by_cases h : i < (atL n r).length
    · rw [rs_succ h, recStep]
      split
      · show (rs n r i).1 + 1 ≤ i + 1; omega
      · omega
    · have e : rs n r (i + 1) = rs n r i := by
        unfold rs
        rw [List.take_of_length_le (by omega), List.take_of_length_le (by omega)]
      rw [e]; omega
theorem of_nat (n r : Nat) (hn : n ≤ 6) (hr : r < fct n) (v : Value) (w : World) (h : Rd w v (atL n r)) : Calls Try.prog 11 #[v] w fun e w' => Below w.heap.size w w' ∧ ∃ a c, e = .returned (.tuple #[.slice a (nc n r) c, .int .i64 0]) := by
  obtain ⟨-, h2, h3, -⟩ := okr_of hn hr
  refine (of_ok v _ w h h2).mono ?_
  rintro e w' ⟨hb, u, rfl, ho⟩
  obtain ⟨a, c, rfl⟩ := ho.shape
  refine ⟨hb, a, c, ?_⟩
  rw [rows_len, h3, cyc, List.length_map]
  rfl
set_option maxRecDepth 20000 in
set_option maxHeartbeats 3200000 in
theorem walk_ok (n : Nat) (hn : n ≤ 6) (w : World) : Calls Try.prog 5 #[.int .i64 n] w fun e w' => e = .returned (.bool true) ∧ Below w.heap.size w w' := by
  go_enter Try.func5, Try.ntmps5
  go_wp2_with fail
  refine (alive_any _).mono ?_
  rintro e w1 ⟨rfl, hb1⟩
  have HB1 := Lib.hid hb1
  clear hb1
  have f0 : decide (6 < (n : Int)) = false := decide_eq_false (by omega)
  obtain ⟨N, hN, hN7, hNn⟩ : ∃ N : Nat, (n : Int) + 1 = (N : Int) ∧ N ≤ 7 ∧ N = n + 1 := ⟨n + 1, rfl, by omega, rfl⟩
  have hw : IntKind.i64.wrap ((n : Int) + 1) = (N : Int) := by rw [hN, IntKind.wrap_i64]; omega
  have hw2 : IntKind.i64.wrap (N : Int) = (N : Int) := by rw [IntKind.wrap_i64]; omega
  have hmk := mk_run N hN7
  have HNN := Lib.hid hNn
  clear hNn
  go_wp2_with fail
  go_cut [3, 4] from 22 to 27 (fun av bv wx => ∃ g1 g2, av = .slice (some ⟨g1, 0, none⟩) N N ∧ bv = .slice (some ⟨g2, 0, none⟩) N N ∧ w.heap.size ≤ g1 ∧ w.heap.size ≤ g2 ∧ g1 < wx.heap.size ∧ g2 < wx.heap.size ∧ Hid (g1 ≠ g2) ∧ Hid (OC wx g1 g1 N N (fun _ => 0)) ∧ Hid (OC wx g2 g2 N N (fun _ => 0)) ∧ Hid (Below w.heap.size w wx))
  case first =>
    go_region
    all_goals
      go_wp2_with fail
      go_meet
      obtain ⟨W, hW⟩ : ∃ W, W = ((w1.alloc (.cells (madeCells #[.int .i64 0] N) 3)).alloc (.cells (madeCells #[.int .i64 0] N) 3)).drew := ⟨_, rfl⟩
      obtain ⟨hBW, q1, q2⟩ := two_made w1 N hN7 W hW
      have hb := HB1.out.trans (hBW.mono HB1.out.size)
      have hg0 : w.heap.size ≤ w1.heap.size := HB1.out.size
      have hlt1 := q1.lt.2
      have hlt2 := q2.lt.2
      rw [← hW]
      first
        | exact ⟨_, _, rfl, rfl, hg0, by omega, hlt1, hlt2, (by show _ ≠ _; omega), q1, q2, hb⟩
        | exact ⟨_, _, rfl, rfl, by omega, hg0, hlt2, hlt1, (by show _ ≠ _; omega), q2, q1, hb⟩
  case rest =>
    obtain ⟨g1, g2, rfl, rfl, hg0, hg20, hlt1, hlt2, HNE, Q1, Q2, HBW⟩ := hcut
    clear hmk HB1
    obtain ⟨W, hW⟩ : ∃ W, W = wc := ⟨_, rfl⟩
    subst hW
    have HDF := Lib.hid (dfact n hn W)
    have hA := fct_le hn
    have HAT := Lib.hid (fun r (hr : r < fct n) w => at_nat n r (by omega) (by have := fct_le hn; omega) w)
    have HOK := Lib.hid (fun r (hr : r < fct n) => okr_of hn hr)
    have HOF := Lib.hid (fun r (hr : r < fct n) v w h => of_nat n r hn hr v w h)
    have HSAME := Lib.hid (fun k (hk : k ≤ n) => same_counts (k := k) hn hk)
    obtain ⟨A, hAe⟩ : ∃ A, fct n = A := ⟨_, rfl⟩
    rw [hAe] at HDF hA HAT HOK HOF HSAME
    clear hAe
    go_wp2_with fail
    refine HDF.out.mono ?_
    rintro e w2 ⟨rfl, rfl⟩
    clear HDF
    go_wp2_with fail
    go_loopw [30, 5, 6, 7, 8, 9, 10, 11, 13, 65] (fun iv _ _ _ _ _ _ _ _ _ wr => ∃ r : Nat, r ≤ A ∧ iv = .int .i64 r ∧ Below w.heap.size w wr ∧ g1 < wr.heap.size ∧ g2 < wr.heap.size ∧ OC wr g1 g1 N N (CT (nc n) r) ∧ OC wr g2 g2 N N (CT (nr n) r)) (fun iv _ _ _ _ _ _ _ _ _ _ => A - (intOf iv).toNat)
    case atStart => exact ⟨0, Nat.zero_le _, rfl, HBW.out, hlt1, hlt2, Q1.out.congr (fun k _ => by simp [CT, tab]), Q2.out.congr (fun k _ => by simp [CT, tab])⟩
    case round =>
      clear HBW Q1 Q2 hlt1 hlt2
      obtain ⟨r, hr, rfl, hbel, hlt1, hlt2, q1, q2⟩ := hrel
      have Q1 := Lib.hid q1
      have Q2 := Lib.hid q2
      have HBE := Lib.hid hbel
      clear q1 q2 hbel
      by_cases hlt : r < A
      · obtain ⟨o1, o2, o3, o4⟩ := HOK.out r hlt
        have HATR := Lib.hid (HAT.out r hlt wr)
        have HOFR := Lib.hid (HOF.out r hlt)
        have hncl : nc n r ≤ n := lows_le _ _
        have HNR : Hid (nr n r = (rs n r n).1) := by show _ = _; rw [nr, rs, List.take_of_length_le (by omega)]
        have HO1 := Lib.hid o1
        have HLEN := Lib.hid o3
        obtain ⟨x, hx⟩ : ∃ x, nc n r = x := ⟨_, rfl⟩
        rw [hx] at hncl HOFR
        have HX := Lib.hid hx
        clear o1 o2 o3 hx
        go_wp2_with fail
        refine HATR.out.mono ?_
        rintro e w3 ⟨hb3, hpost⟩
        obtain ⟨u, rfl, hu, hub⟩ := hpost.2 HO1.out
        have HU := Lib.hid hu
        have HUB := Lib.hid hub
        have HB3 := Lib.hid hb3
        clear hb3 hpost hu hub HATR
        go_wp2_with fail
        refine (HOFR.out _ _ HU.out).mono ?_
        rintro e w4 ⟨hb4, la, lc, rfl⟩
        have hb34 := HB3.out.trans (hb4.mono HB3.out.size)
        have HU4 := Lib.hid (HU.out.below hb4 (Nat.le_refl _))
        have q1 := Q1.out.keepAt hb34 hlt1
        have q2 := Q2.out.keepAt hb34 hlt2
        have hs4 := hb34.size
        have HB4 := Lib.hid (HBE.out.trans (hb34.mono HBE.out.size))
        have f1 : decide ((n : Int) < (x : Int)) = false := decide_eq_false (by omega)
        have hxN : x < N := by have := HNN.out; omega
        have cx := q1.get x hxN
        have fx := q1.frozen x
        have hle := tab_le (nc n) r x
        have HST := Lib.hid ((q1.set x (CT (nc n) r x + 1)).congr (fun k _ => CT_step (nc n) r x HX.out k))
        have HST2 := Lib.hid (OC.other q2 (a := ⟨g1, x, none⟩) HNE.out (.int .i64 ((CT (nc n) r x + 1 : Nat) : Int)))
        have HBS := Lib.hid (HB4.out.setCell (show w.heap.size ≤ (⟨g1, x, none⟩ : Addr).block from hg0) (.int .i64 ((CT (nc n) r x + 1 : Nat) : Int)))
        obtain ⟨ua, uc, rfl, hul, hum, huo⟩ := HU4.out.open
        have HUO : Hid (∀ i, i < n → ∃ b off, ua = some ⟨b, off, none⟩ ∧ b < w4.heap.size ∧ b ≠ g1 ∧ b ≠ g2 ∧ ∀ i, i < n → w4.cell? ⟨b, off + i, none⟩ = some (.int .i64 ((atL n r).getD i 0))) := fun i hi => by
          obtain ⟨b, off, rfl, k1, k2⟩ := huo i (by rw [HLEN.out]; exact hi)
          have k3 := HUB.out b rfl
          exact ⟨b, off, rfl, k1, by omega, by omega, fun i hi => k2 i (by rw [HLEN.out]; exact hi)⟩
        rw [HLEN.out] at hul ⊢
        have hctl : CT (nc n) r x ≤ 720 := by unfold CT; omega
        clear q1 q2 hb34 hb4 hle huo
        go_wp2_with fail
        obtain ⟨w5, hw5⟩ : ∃ w5, w5 = w4.setCell ⟨g1, x, none⟩ (.int .i64 ((CT (nc n) r x : Int) + 1)) := ⟨_, rfl⟩
        rw [← hw5]
        have HC1 : Hid (OC w5 g1 g1 N N (CT (nc n) (r + 1))) := by rw [hw5]; exact HST.out
        have HC2 : Hid (OC w5 g2 g2 N N (CT (nr n) r)) := by rw [hw5]; exact HST2.out
        have HB5 : Hid (Below w.heap.size w w5) := by rw [hw5]; exact HBS.out
        have hsz5 : w5.heap.size = w4.heap.size := by rw [hw5]; simp
        have HU5 : Hid (∀ i, i < n → ∃ b off, ua = some ⟨b, off, none⟩ ∧ ∀ i, i < n → w5.cell? ⟨b, off + i, none⟩ = some (.int .i64 ((atL n r).getD i 0))) := fun i hi => by
          obtain ⟨b, off, rfl, k1, k2, k3, k4⟩ := HUO.out i hi
          exact ⟨b, off, rfl, fun i hi => by rw [hw5]; exact (World.cell?_of_block (Below.heap_setCell _ _ _ _ (by show b ≠ g1; exact k2))).trans (k4 i hi)⟩
        clear hw5 HST HST2 HBS HUO cx fx hctl HU4 HB4 HB3 HU
        have HRS := Lib.hid (fun i (hi : i < n) => rs_succ (n := n) (r := r) (i := i) (by rw [HLEN.out]; exact hi))
        go_loopw [65, 10, 11, 13] (fun iv mv bv _ wr => ∃ i m : Nat, ∃ b : Int, i ≤ n ∧ iv = .int .i64 i ∧ mv = .int .i64 m ∧ bv = .int .i64 b ∧ m ≤ i ∧ w5 = wr ∧ Hid (rs n r i = (m, b))) (fun iv _ _ _ _ => n - (intOf iv).toNat)
        case atStart => exact ⟨0, 0, -1, Nat.zero_le _, rfl, rfl, rfl, Nat.le_refl _, rfl, rfl⟩
        case round =>
          obtain ⟨i, m, b, hi, rfl, rfl, rfl, hmi, rfl, hrs⟩ := hrel
          by_cases hin : i < n
          · obtain ⟨ub, uo, rfl, huc⟩ := HU5.out i hin
            have cy := huc i hin
            have HS := Lib.hid (HRS.out i hin)
            rw [hrs.out] at HS
            obtain ⟨y, hy⟩ : ∃ y, (atL n r).getD i 0 = y := ⟨_, rfl⟩
            rw [hy] at cy HS
            clear huc hy
            by_cases hby : b < y
            · have HS1 : Hid (rs n r (i + 1) = (m + 1, y)) := by show _ = _; rw [HS.out, recStep, if_pos hby]
              go_wp2_with fail
              exact ⟨⟨i + 1, m + 1, y, by omega, by go_num, by go_num, rfl, by omega, by first | rfl | trivial, HS1⟩, by simp [intOf]; omega⟩
            · have HS1 : Hid (rs n r (i + 1) = (m, b)) := by show _ = _; rw [HS.out, recStep, if_neg hby]
              go_wp2_with fail
              exact ⟨⟨i + 1, m, b, by omega, by go_num, rfl, rfl, by omega, by first | rfl | trivial, HS1⟩, by simp [intOf]; omega⟩
          · obtain rfl : i = n := by omega
            have HMN : Hid (nr i r = m) := by show _ = _; rw [HNR.out, hrs.out]
            have hmN : m < N := by have := HNN.out; omega
            have q2 := HC2.out
            have cm := q2.get m hmN
            have fm := q2.frozen m
            have hle := tab_le (nr i) r m
            have HST := Lib.hid ((q2.set m (CT (nr i) r m + 1)).congr (fun k _ => CT_step (nr i) r m HMN.out k))
            have HST1 := Lib.hid (OC.other HC1.out (a := ⟨g2, m, none⟩) (fun e => HNE.out e.symm) (.int .i64 ((CT (nr i) r m + 1 : Nat) : Int)))
            have HBS := Lib.hid (HB5.out.setCell (show w.heap.size ≤ (⟨g2, m, none⟩ : Addr).block from hg20) (.int .i64 ((CT (nr i) r m + 1 : Nat) : Int)))
            have hctl : CT (nr i) r m ≤ 720 := by unfold CT; omega
            clear q2 hle hrs
            go_wp2_with fail
            exact ⟨⟨r + 1, by omega, by go_num, HBS.out, by simp [World.setCell]; omega, by simp [World.setCell]; omega, HST1.out, HST.out⟩, by simp [intOf]; omega⟩
      · obtain rfl : r = A := by omega
        have hr1 := Q1.out.rd
        have hr2 := Q2.out.rd
        have HE := Lib.hid (equal_any _ _ _ _ wr hr1 hr2)
        have HEQ : Hid (tabI N (CT (nc n) r) = tabI N (CT (nr n) r)) := tabI_congr fun k hk => HSAME.out k (by have := HNN.out; omega)
        rw [decide_eq_true HEQ.out] at HE
        clear hr1 hr2
        go_wp2_with fail
        refine HE.out.mono ?_
        rintro e w3 ⟨rfl, hb3⟩
        have HB3 := Lib.hid (HBE.out.trans (hb3.mono HBE.out.size))
        clear hb3
        go_wp2_with fail
        go_ret
        exact ⟨rfl, HB3.out⟩
theorem walk (n : Int) (w : World) (hwf : (Lit.int .i64 n).wf = true) : Calls Try.prog 5 #[.int .i64 n] w fun e w' => e = .returned (.bool true) ∧ Below w.heap.size w w' := by
  by_cases h1 : n < 0
  · have f1 : decide (n < 0) = true := decide_eq_true h1
    go_enter Try.func5, Try.ntmps5
    go_wp2_with fail
    refine (alive_any _).mono ?_
    rintro e w1 ⟨rfl, hb1⟩
    go_wp2_with fail
    go_ret
    exact ⟨rfl, hb1⟩
  · by_cases h2 : 6 < n
    · have f1 : decide (n < 0) = false := decide_eq_false h1
      have f2 : decide (6 < n) = true := decide_eq_true h2
      go_enter Try.func5, Try.ntmps5
      go_wp2_with fail
      refine (alive_any _).mono ?_
      rintro e w1 ⟨rfl, hb1⟩
      go_wp2_with fail
      go_ret
      exact ⟨rfl, hb1⟩
    · obtain ⟨m, rfl⟩ : ∃ m : Nat, n = m := ⟨n.toNat, by omega⟩
      exact walk_ok m (by omega) w
end Go.Proofs.Ythnalgkojoeniaa.cyclesFoata
