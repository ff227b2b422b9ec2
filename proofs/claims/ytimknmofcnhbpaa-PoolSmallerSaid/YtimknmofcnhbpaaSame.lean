/- ref.SamePool of two that are the same; one more that comes, plain. No condition. -/
import Derived.Test.YtimknmofcnhbpaaAl
set_option linter.unusedSimpArgs false
set_option linter.unusedVariables false
namespace Go.Proofs.Ytimknmofcnhbpaa
open Go.RowKit
theorem getD_app_lt {l : List Int} {x : Int} {k : Nat} (h : k < l.length) : (l ++ [x]).getD k 0 = l.getD k 0 := by
  rw [List.getD_eq_getElem?_getD, List.getElem?_append_left h, List.getD_eq_getElem?_getD]
theorem getD_app_eq {l : List Int} {x : Int} : (l ++ [x]).getD l.length 0 = x := by
  rw [List.getD_eq_getElem?_getD, List.getElem?_append_right (Nat.le_refl _)]; simp
theorem allE_app {ds : List Int} {d : Int} : ∀ k, k ≤ ds.length → allE (ds ++ [d]) k = allE ds k
  | 0, _ => rfl
  | k + 1, h => by
    unfold allE
    rw [allE_app k (by omega), getD_app_lt (by omega)]
theorem allL_app {r : Int} {l ds : List Int} {x d : Int} : ∀ k, k ≤ l.length → k ≤ ds.length → allL r (l ++ [x]) (ds ++ [d]) k = allL r l ds k
  | 0, _, _ => rfl
  | k + 1, h, h' => by
    unfold allL
    rw [allL_app k (by omega) (by omega), getD_app_lt (by omega), getD_app_lt (by omega)]
theorem allR_bad {r : Int} {l ds : List Int} (h : ¬ (1 ≤ r ∧ r ≤ 400)) : allR r l ds = 2 := by unfold allR; rw [if_pos h]
theorem allR_len {r : Int} {l ds : List Int} (h : 1 ≤ r ∧ r ≤ 400) (hn : l.length ≠ ds.length) : allR r l ds = 1 := by unfold allR; rw [if_neg (fun hh => hh h), if_pos hn]
theorem allR_run {r : Int} {l ds : List Int} (h : 1 ≤ r ∧ r ≤ 400) (hn : l.length = ds.length) : allR r l ds = allE ds l.length := by unfold allR; rw [if_neg (fun hh => hh h), if_neg (fun hh => hh hn)]
theorem allR_app {r : Int} {l ds : List Int} {x d : Int} : allR r (l ++ [x]) (ds ++ [d]) = if allR r l ds = 0 then addE l.length d else allR r l ds := by
  by_cases hr : 1 ≤ r ∧ r ≤ 400
  · by_cases hn : l.length = ds.length
    · rw [allR_run hr (by rw [List.length_append, List.length_append, hn]; rfl), allR_run hr hn, List.length_append]
      show (if allE (ds ++ [d]) l.length = 0 then addE (l.length : Int) ((ds ++ [d]).getD l.length 0) else allE (ds ++ [d]) l.length) = _
      rw [allE_app _ (by omega), hn, getD_app_eq]
    · rw [allR_len hr (by rw [List.length_append, List.length_append]; show l.length + 1 ≠ ds.length + 1; omega), allR_len hr hn]; rfl
  · rw [allR_bad hr, allR_bad hr]; rfl
theorem allR_ok {r : Int} {l ds : List Int} (h : allR r l ds = 0) : 1 ≤ r ∧ r ≤ 400 ∧ l.length = ds.length := by
  unfold allR at h
  by_cases hr : 1 ≤ r ∧ r ≤ 400
  · rw [if_neg (by omega)] at h
    by_cases hn : l.length = ds.length
    · exact ⟨hr.1, hr.2, hn⟩
    · rw [if_pos hn] at h; cases h
  · rw [if_pos hr] at h; cases h
theorem allL_next {r : Int} {l ds : List Int} {x d : Int} (hn : l.length = ds.length) : allL r (l ++ [x]) (ds ++ [d]) (l ++ [x]).length = addL r (allL r l ds l.length) x d := by
  rw [List.length_append]
  show addL r (allL r (l ++ [x]) (ds ++ [d]) l.length) _ _ = _
  rw [allL_app _ (Nat.le_refl _) (by omega), getD_app_eq]
  congr 1
  show (ds ++ [d]).getD l.length 0 = d
  rw [hn, getD_app_eq]
set_option maxHeartbeats 800000 in
theorem same_ok (r c : Int) (v v' : Value) (zs : List Int) (w : World) (h1 : Rd w v zs) (h2 : Rd w v' zs) :
    Calls Try.prog 17 #[.agg #[.int .i64 r, .int .i64 c, v], .agg #[.int .i64 r, .int .i64 c, v']] w fun e w' => e = .returned (.bool true) ∧ Below w.heap.size w w' := by
  obtain ⟨a, k, rfl, hk1, hk2⟩ := h1.slice
  obtain ⟨a', k', rfl, hk1', hk2'⟩ := h2.slice
  have H1 := Lib.hid h1
  have H2 := Lib.hid h2
  clear h1 h2
  generalize zs.length = n at *
  unfold maxLen at hk2
  have hn63 : n ≤ 9223372036854775807 := by omega
  clear hk1 hk2 hk1' hk2'
  go_enter Try.func17, Try.ntmps17
  go_wp2_with fail
  obtain ⟨wp, hwp⟩ : ∃ wp, (w.alloc (.cells #[.int .i64 r, .int .i64 c, .slice a n k] 27)).alloc (.cells #[.int .i64 r, .int .i64 c, .slice a' n k'] 27) = wp := ⟨_, rfl⟩
  have HB : Hid (Below w.heap.size w wp) := hwp ▸ ((Below.refl _ _).alloc (Nat.le_refl _) _).alloc (by simp) _
  have HX : Hid (BX wp w.heap.size r c (.slice a n k)) := hwp ▸ (BX.new w r c (.slice a n k)).below (B := w.heap.size + 1) ((Below.refl _ _).alloc (by simp) _) (by omega)
  have HY : BX ((w.alloc (.cells #[.int .i64 r, .int .i64 c, .slice a n k] 27)).alloc (.cells #[.int .i64 r, .int .i64 c, .slice a' n k'] 27)) (w.heap.size + 1) r c (.slice a' n k') := by simpa using BX.new (w.alloc (.cells #[.int .i64 r, .int .i64 c, .slice a n k] 27)) r c (.slice a' n k')
  rw [hwp] at HY
  replace HY := Lib.hid HY
  rw [hwp]
  have R1 := Lib.hid (H1.out.below HB.out (Nat.le_refl _))
  have R2 := Lib.hid (H2.out.below HB.out (Nat.le_refl _))
  clear hwp H1 H2
  go_loopw [16] (fun iv wr => ∃ i q : Nat, i ≤ n ∧ iv = .int .i64 i ∧ wr = wp.drewN q) (fun iv _ => n - (intOf iv).toNat)
  case atStart => exact ⟨0, 0, Nat.zero_le _, rfl, rfl⟩
  case round =>
    obtain ⟨i, q, hi, rfl, rfl⟩ := hrel
    have d0 := HX.out.c0
    have d1 := HX.out.c1
    have d2 := HX.out.c2
    have e0 := HY.out.c0
    have e1 := HY.out.c1
    have e2 := HY.out.c2
    by_cases hlt : i < n
    · obtain ⟨b1, o1, rfl, hb1, k1⟩ := R1.out.at hlt
      obtain ⟨b2, o2, rfl, hb2, k2⟩ := R2.out.at hlt
      have hii : (i : Int) < (n : Int) := by omega
      have hwi : IntKind.i64.wrap ((i : Int) + 1) = ((i + 1 : Nat) : Int) := by rw [IntKind.wrap_i64]; omega
      generalize zs.getD i 0 = z at *
      have hzz : (z != z) = false := by simp
      go_wp2_with fail
      go_quiet (fail)
      go_wp2_with fail
      go_roundw
      case rel => exact ⟨i + 1, _, by omega, by go_num, rfl⟩
      case measure => simp [intOf]; omega
    · obtain rfl : i = n := by omega
      go_wp2_with fail
      go_ret
      exact ⟨by simp, HB.out.drewN _⟩
end Go.Proofs.Ytimknmofcnhbpaa
