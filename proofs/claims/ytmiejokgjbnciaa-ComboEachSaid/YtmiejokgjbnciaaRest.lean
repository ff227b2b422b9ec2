/- combo.Rest: what it answers. No condition. -/
import Derived.Test.YtmiejokgjbnciaaRight
set_option linter.unusedSimpArgs false
set_option linter.unusedVariables false
namespace Go.Proofs.Ytmiejokgjbnciaa
open Go.RowKit
/-- Those below x that are not in the list. -/
def rs (zs : List Int) : Nat → List Int
  | 0 => []
  | x + 1 => if (x : Int) ∈ zs then rs zs x else rs zs x ++ [(x : Int)]
theorem rs_len (zs : List Int) (x : Nat) : (rs zs x).length ≤ x := by
  induction x with
  | zero => simp [rs]
  | succ x ih => rw [rs]; split
                 · omega
                 · simp; omega
theorem rest_bad (n : Int) (v : Value) (zs : List Int) (w : World) (h : Rd w v zs) (hr : ¬ RightP n zs) : Calls Try.prog 16 #[.int .i64 n, v] w fun e w' => w = w' ∧ e = .returned (.tuple #[.slice none 0 0, .int .i64 1]) := by
  have H := Lib.hid (right_any n v zs w h)
  have HR := Lib.hid hr
  go_enter Try.func16, Try.ntmps16
  go_wp2_with fail
  refine H.out.mono ?_
  rintro e w' ⟨rfl, b, rfl, hb⟩
  obtain rfl : b = false := by
    cases b
    · rfl
    · exact absurd (hb.1 rfl) HR.out
  go_wp2_with fail
  go_ret2
  exact ⟨rfl, rfl⟩
set_option maxHeartbeats 1600000 in
theorem rest_ok (n : Nat) (v : Value) (zs : List Int) (w : World) (h : Rd w v zs) (hr : RightP n zs) : Calls Try.prog 16 #[.int .i64 n, v] w fun e w' => Below w.heap.size w w' ∧ ∃ v', e = .returned (.tuple #[v', .int .i64 0]) ∧ Rd w' v' (rs zs n) := by
  obtain ⟨i0, hi, hz0, hz1, hz2⟩ := info_parts Try.info3t
  have H := Lib.hid (right_any n v zs w h)
  have HR := Lib.hid hr
  have hn60 : (n : Int) ≤ 60 := hr.2.1
  have HG : Hid (∀ i j, i < j → j < zs.length → zs.getD i 0 < zs.getD j 0) := fun i j h1 h2 => by
    have := rising_gap hr.2.2 (j - i) i (by omega)
    rw [show i + (j - i) = j by omega] at this
    have : zs.getD i 0 + ((j - i : Nat) : Int) ≤ zs.getD j 0 := this
    omega
  have HP : Hid (∀ i, i < zs.length → 0 ≤ zs.getD i 0 ∧ zs.getD i 0 < n) := fun i hi => ⟨(hr.2.2 i hi).1, (hr.2.2 i hi).2.1⟩
  have HI : Hid (∀ y, y ∈ zs ↔ ∃ i, i < zs.length ∧ zs.getD i 0 = y) := fun y => by
    constructor
    · intro hy
      obtain ⟨i, hi, e⟩ := List.mem_iff_getElem.1 hy
      exact ⟨i, hi, by simp [List.getD_eq_getElem?_getD, hi, e]⟩
    · rintro ⟨i, hi, e⟩
      rw [← e, List.getD_eq_getElem?_getD, List.getElem?_eq_getElem hi]
      simp
  clear hr
  have HRD := Lib.hid h
  obtain ⟨a, cap, rfl, hlc, hcm, hop⟩ := h.open
  clear h hop hlc hcm
  go_enter Try.func16, Try.ntmps16
  go_wp2_with fail
  refine H.out.mono ?_
  rintro e w' ⟨rfl, b, rfl, hb⟩
  obtain rfl : b = true := hb.2 HR.out
  clear hb H HR
  go_wp2_with fail
  go_loopw [1, 6, 13] (fun cv ov iv wr => ∃ x j : Nat, x ≤ n ∧ j ≤ zs.length ∧ iv = .int .i64 x ∧ Rd w cv (zs.drop j) ∧ wr.ownsRow w.heap.size 3 1 ov (rs zs x).length ((rs zs x).map (Value.int .i64)) ∧ Hid (∀ i, i < j → zs.getD i 0 < x) ∧ Hid (∀ i, j ≤ i → i < zs.length → (x : Int) ≤ zs.getD i 0) ∧ Below w.heap.size w wr) (fun _ _ iv _ => n - (intOf iv).toNat)
  case atStart => exact ⟨0, 0, Nat.zero_le _, Nat.zero_le _, rfl, HRD.out, World.ownsRow_nil _ _ _ _, fun i hi => by omega, fun i _ hi => (HP.out i hi).1, Below.refl _ _⟩
  case round =>
    obtain ⟨x, j, hxn, hjl, rfl, hrd, hown, hlo, hhi, hbel⟩ := hrel
    by_cases hlt : x < n
    · have hdl : (zs.drop j).length = zs.length - j := List.length_drop
      have HRD2 := Lib.hid hrd
      obtain ⟨a', cap', rfl, hlc, hcm, hop⟩ := hrd.open
      clear hrd
      rw [hdl] at hlc hop HRD2 ⊢
      by_cases hj : j < zs.length
      · obtain ⟨b, off, rfl, hb, hc⟩ := hop 0 (by omega)
        have c1 : wr.cell? ⟨b, off + 0, none⟩ = _ := (World.cell?_of_block (w := w) (hbel.block b hb)).trans (hc 0 (by omega))
        have hz : (zs.drop j).getD 0 0 = zs.getD j 0 := by simp [List.getD_eq_getElem?_getD]
        rw [hz] at c1
        simp only [Nat.add_zero] at c1
        have hd1 : (0 : Int) < ((zs.length - j : Nat) : Int) := by omega
        have HC := Lib.hid hc
        clear hop hz hdl hc
        by_cases he : zs.getD j 0 = x
        · rw [he] at c1
          have HR2 : Hid (Rd w (.slice (if cap' = 1 then some ⟨b, off, none⟩ else some ⟨b, off + 1, none⟩) (zs.length - j - 1) (cap' - 1)) (zs.drop (j + 1))) := by
            refine Rd.mk (by rw [List.length_drop]; omega) (by omega) (by unfold maxLen; omega) fun i hi => ?_
            rw [if_neg (by omega)]
            refine ⟨b, off + 1, rfl, hb, fun i hi => ?_⟩
            have h1 := HC.out (i + 1) (by omega)
            rw [show off + 1 + i = off + (i + 1) by omega, h1]
            congr 2
            simp only [List.getD_eq_getElem?_getD, List.getElem?_drop]
            rw [show j + (i + 1) = j + 1 + i by omega]
          have HRS : Hid (rs zs (x + 1) = rs zs x) := by
            show _ = _
            rw [rs, if_pos ((HI.out _).2 ⟨j, hj, he⟩)]
          have HHE := Lib.hid he
          clear he
          go_wp2_with fail
          go_roundw
          case rel => exact ⟨x + 1, j + 1, by omega, by omega, by go_num, HR2.out, by rw [HRS.out]; exact hown, fun i hi => by
              rcases Nat.lt_or_ge i j with h | h
              · have := hlo.out i h; omega
              · obtain rfl : i = j := by omega
                rw [HHE.out]; omega, fun i h1 h2 => by
              have := HG.out j i (by omega) h2
              rw [HHE.out] at this; omega, hbel⟩
          case measure => simp [intOf]; omega
        · have hgt : (x : Int) < zs.getD j 0 := by have := hhi.out j (Nat.le_refl _) hj; omega
          have hne : (zs.getD j 0 == (x : Int)) = false := by rw [beq_eq_false_iff_ne]; exact he
          have HNI : Hid (¬ (x : Int) ∈ zs) := fun hm => by
            obtain ⟨i, hi2, e⟩ := (HI.out _).1 hm
            rcases Nat.lt_or_ge i j with h | h
            · have := hlo.out i h; omega
            · rcases Nat.lt_or_ge j i with h3 | h3
              · have := HG.out j i h3 hi2; omega
              · obtain rfl : i = j := by omega
                exact he e
          have HHI : Hid (∀ i, j ≤ i → i < zs.length → ((x + 1 : Nat) : Int) ≤ zs.getD i 0) := fun i h1 h2 => by
            rcases Nat.lt_or_ge j i with h3 | h3
            · have := HG.out j i h3 h2; omega
            · obtain rfl : i = j := by omega
              omega
          clear he
          obtain ⟨y, hy⟩ : ∃ y, zs.getD j 0 = y := ⟨_, rfl⟩
          rw [hy] at c1 hgt hne
          clear hy
          have HRS : Hid (rs zs (x + 1) = rs zs x ++ [(x : Int)]) := by show _ = _; rw [rs, if_neg HNI.out]
          have hsz := hbel.size
          have hrl := rs_len zs x
          go_wp2_with (at_builtin; go_must (refine push rfl _ _ 30 rfl w.heap.size 3 i0 (.int .i64 0) 8 Try.underlying30 hi hz0 hz1 hz2 rfl _ (rs zs x).length ((rs zs x).map (Value.int .i64)) rfl hown (.int .i64 (x : Int)) _ rfl rfl rfl (by decide) ?hk1 hsz ?_))
          case hk1 => omega
          intro v' w2 hown2 hg
          have hb2 := grown_below hg hown hbel (Nat.le_refl _) hsz
          clear hg hown hbel hsz
          go_wp2_with fail
          go_roundw
          case rel => exact ⟨x + 1, j, by omega, hjl, by go_num, HRD2.out, by rw [HRS.out]; simpa using hown2, fun i hi => by have := hlo.out i hi; omega, fun i h1 h2 => HHI.out i h1 h2, hb2⟩
          case measure => simp [intOf]; omega
      · obtain rfl : j = zs.length := by omega
        have hd1 : zs.length - zs.length = 0 := by omega
        rw [hd1] at hlc hop HRD2 ⊢
        have HNI : Hid (¬ (x : Int) ∈ zs) := fun hm => by
          obtain ⟨i, hi2, e⟩ := (HI.out _).1 hm
          have := hlo.out i hi2; omega
        have HHI : Hid (∀ i, zs.length ≤ i → i < zs.length → ((x + 1 : Nat) : Int) ≤ zs.getD i 0) := fun i h1 h2 => by omega
        clear hop hdl hd1
        obtain ⟨j, hjj⟩ : ∃ j, zs.length = j := ⟨_, rfl⟩
        rw [hjj] at HRD2 hlo HHI hjl
        have HJJ := Lib.hid hjj; clear hjj
        have HRS : Hid (rs zs (x + 1) = rs zs x ++ [(x : Int)]) := by show _ = _; rw [rs, if_neg HNI.out]
        have hsz := hbel.size
        have hrl := rs_len zs x
        go_wp2_with (at_builtin; go_must (refine push rfl _ _ 30 rfl w.heap.size 3 i0 (.int .i64 0) 8 Try.underlying30 hi hz0 hz1 hz2 rfl _ (rs zs x).length ((rs zs x).map (Value.int .i64)) rfl hown (.int .i64 (x : Int)) _ rfl rfl rfl (by decide) ?hk2 hsz ?_))
        case hk2 => omega
        intro v' w2 hown2 hg
        have hb2 := grown_below hg hown hbel (Nat.le_refl _) hsz
        clear hg hown hbel hsz
        go_wp2_with fail
        go_roundw
        case rel => exact ⟨x + 1, j, by omega, by have := HJJ.out; omega, by go_num, HRD2.out, by rw [HRS.out]; simpa using hown2, fun i hi => by have := hlo.out i hi; omega, fun i h1 h2 => by have := HJJ.out; omega, hb2⟩
        case measure => simp [intOf]; omega
    · obtain rfl : x = n := by omega
      have HO := Lib.hid (Rd.own hown)
      have HB := Lib.hid hbel
      clear hown hbel
      go_wp2_with fail
      go_ret2
      exact ⟨HB.out, _, rfl, HO.out⟩
end Go.Proofs.Ytmiejokgjbnciaa
