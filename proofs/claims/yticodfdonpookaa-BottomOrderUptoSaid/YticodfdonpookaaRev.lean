/- slices.Reverse at []uint64, on a list of the call's own. No condition. -/
import Derived.Test.YticodfdonpookaaGen
import Derived.RegionTactic
import Derived.BigRegion
set_option linter.unusedSimpArgs false
set_option linter.unusedVariables false
namespace Go.Proofs.Yticodfdonpookaa
open Go.RowKit
/-- The list with its first i and its last i elements exchanged. -/
def mx (xs : List Int) (i : Nat) : List Int := (List.range xs.length).map fun k => if k < i ∨ xs.length - i ≤ k then xs.getD (xs.length - 1 - k) 0 else xs.getD k 0
theorem mx_len (xs : List Int) (i : Nat) : (mx xs i).length = xs.length := by simp [mx]
theorem mx_get (xs : List Int) (i : Nat) {k : Nat} (hk : k < xs.length) : (mx xs i).getD k 0 = if k < i ∨ xs.length - i ≤ k then xs.getD (xs.length - 1 - k) 0 else xs.getD k 0 := by
  simp [mx, List.getD_eq_getElem?_getD, List.getElem?_map, List.getElem?_range, hk]
theorem list_ext {xs ys : List Int} (h : xs.length = ys.length) (e : ∀ k, k < xs.length → xs.getD k 0 = ys.getD k 0) : xs = ys := by
  apply List.ext_getElem h
  intro i h1 h2
  have := e i h1
  simpa [List.getD_eq_getElem?_getD, h1, h2] using this
theorem mx_zero (xs : List Int) : mx xs 0 = xs := list_ext (mx_len _ _) fun k hk => by
  rw [mx_len] at hk
  rw [mx_get _ _ hk, if_neg (by omega)]
theorem mx_end (xs : List Int) {i : Nat} (h : xs.length ≤ 2 * i + 1) (h2 : 2 * i ≤ xs.length) : mx xs i = xs.reverse := list_ext (by rw [mx_len, List.length_reverse]) fun k hk => by
  rw [mx_len] at hk
  have : xs.reverse.getD k 0 = xs.getD (xs.length - 1 - k) 0 := by
    rw [List.getD_eq_getElem?_getD, List.getElem?_reverse hk, List.getD_eq_getElem?_getD]
  rw [mx_get _ _ hk, this]
  by_cases e : k < i ∨ xs.length - i ≤ k
  · rw [if_pos e]
  · rw [if_neg e, show xs.length - 1 - k = k by omega]
theorem getD_set' (l : List Int) (i j : Nat) (x : Int) (hj : j < l.length) : (l.set i x).getD j 0 = if i = j then x else l.getD j 0 := by
  rw [List.getD_eq_getElem?_getD, List.getElem?_set, List.getD_eq_getElem?_getD]
  by_cases h : i = j
  · subst h; simp [hj]
  · rw [if_neg h, if_neg h]
theorem mx_step (xs : List Int) {i : Nat} (h : 2 * i + 1 < xs.length) : ((mx xs i).set i (xs.getD (xs.length - 1 - i) 0)).set (xs.length - 1 - i) (xs.getD i 0) = mx xs (i + 1) := list_ext (by simp [mx_len]) fun k hk => by
  simp only [List.length_set, mx_len] at hk
  rw [getD_set' _ _ _ _ (by simpa [mx_len] using hk), mx_get _ _ hk]
  by_cases e1 : xs.length - 1 - i = k
  · rw [if_pos e1, if_pos (by omega), show xs.length - 1 - k = i by omega]
  · rw [if_neg e1, getD_set' _ _ _ _ (by simpa [mx_len] using hk), mx_get _ _ hk]
    by_cases e2 : i = k
    · subst e2
      rw [if_pos rfl, if_pos (by omega)]
    · rw [if_neg e2]
      by_cases e3 : k < i ∨ xs.length - i ≤ k
      · rw [if_pos e3, if_pos (by omega)]
      · rw [if_neg e3, if_neg (by omega)]
set_option maxHeartbeats 1600000 in
theorem rev_ok (v : Value) (n base : Nat) (xs : List Int) (w : World) (h : w.ownsRow base 22 1 v n (xs.map (Value.int .u64))) :
    Calls Try.prog 14 #[v] w fun e w' => e = .returned (.tuple #[]) ∧ Below base w w' ∧ w'.ownsRow base 22 1 v n (xs.reverse.map (Value.int .u64)) := by
  have hl : xs.length = n := by have := h.1; simpa using this
  have HRD := Lib.hid (Rd.own h)
  by_cases h0 : 0 < n
  · obtain ⟨g, cap, rfl, h1, h2, h3, h4, -⟩ := own_open h h0
    unfold maxLen at h2
    have HL := Lib.hid hl
    have HO := Lib.hid h
    have hlt := own_lt h
    clear h hl
    go_enter Try.func14, Try.ntmps14
    go_wp2_with fail
    go_loopw [2, 3] (fun iv jv wr => ∃ i : Nat, 2 * i ≤ n ∧ iv = .int .i64 i ∧ jv = .int .i64 ((n : Int) - 1 - i) ∧ Below base w wr ∧ wr.ownsRow base 22 1 (.slice (some ⟨g, 0, none⟩) n cap) n ((mx xs i).map (Value.int .u64))) (fun iv _ _ => n - (intOf iv).toNat)
    case atStart => exact ⟨0, by omega, rfl, by simp, Below.refl _ _, by rw [mx_zero]; exact HO.out⟩
    case round =>
      obtain ⟨i, hi, rfl, rfl, hbel, ho⟩ := hrel
      by_cases hlt2 : 2 * i + 1 < n
      · obtain ⟨j, hj⟩ : ∃ j : Nat, j = n - 1 - i := ⟨_, rfl⟩
        have hji : (n : Int) - 1 - (i : Int) = (j : Int) := by omega
        rw [hji]
        have ci := own_get ho i (by omega)
        have cj := own_get ho j (by omega)
        rw [mx_get _ _ (by rw [HL.out]; omega), if_neg (by rw [HL.out]; omega)] at ci cj
        have fi := World.ownsRow.frozenAt ho i
        have fj := World.ownsRow.frozenAt ho j
        have HS := Lib.hid (own_set (own_set ho i (xs.getD j 0)) j (xs.getD i 0))
        have HB := Lib.hid ((hbel.setCell (show base ≤ (⟨g, i, none⟩ : Addr).block from hlt.1) (.int .u64 (xs.getD j 0))).setCell (show base ≤ (⟨g, j, none⟩ : Addr).block from hlt.1) (.int .u64 (xs.getD i 0)))
        have HM := Lib.hid (mx_step xs (i := i) (by rw [HL.out]; exact hlt2))
        rw [HL.out, ← hj] at HM
        have hij : i < j := by omega
        have hjn : j < n := by omega
        have hne : ¬ i = j := by omega
        have HJ := Lib.hid hj
        clear ho hbel hj
        generalize xs.getD i 0 = x at *
        generalize xs.getD j 0 = y at *
        go_wp2_with fail
        go_region
        clear ci cj fi fj hji hne
        go_wp2_with fail
        go_roundw
        case rel => exact ⟨i + 1, by omega, by go_num, by have := HJ.out; simp; omega, HB.out.drew, by rw [← HM.out]; exact HS.out⟩
        case measure => simp [intOf]; omega
      · have HE := Lib.hid (mx_end xs (i := i) (by rw [HL.out]; omega) (by rw [HL.out]; exact hi))
        rw [HE.out] at ho
        have HO2 := Lib.hid ho
        have HB := Lib.hid hbel
        clear ho hbel
        have f1 : decide ((i : Int) < (n : Int) - 1 - (i : Int)) = false := decide_eq_false (by omega)
        go_wp2_with fail
        exact bodyPost_end (results_none rfl _ _ _) rfl ⟨rfl, HB.out, HO2.out⟩
  · obtain rfl : n = 0 := by omega
    have hx : xs = [] := List.length_eq_zero_iff.1 hl
    subst hx
    obtain ⟨a, cap, rfl, -⟩ := HRD.out.open
    have HO := Lib.hid h
    clear h HRD
    go_enter Try.func14, Try.ntmps14
    go_wp2_with fail
    refine wp_loop_rounds 1 ?_
    rw [rounds_succ]
    go_wp2_with fail
    exact bodyPost_end (results_none rfl _ _ _) rfl ⟨rfl, Below.refl _ _, HO.out⟩
end Go.Proofs.Yticodfdonpookaa
