/- quant.Count: what it answers. Condition: the Gaps, and their sum, are small. -/
import Derived.Test.YthaiopgmncnekaaGreatDoorQuRow
set_option linter.unusedSimpArgs false
set_option linter.unusedVariables false
set_option maxRecDepth 20000
namespace Go.Proofs.YthaiopgmncnekaaGreatDoor.Qu
open Go.RowKit
def cnt : List Rk → Int
  | [] => 0
  | r :: l => r.Gap + cnt l
theorem cnt_app : ∀ l m : List Rk, cnt (l ++ m) = cnt l + cnt m
  | [], m => by simp [cnt]
  | r :: l, m => by simp only [List.cons_append, cnt, cnt_app l m]; omega
theorem take_succ (l : List Rk) (k : Nat) (h : k < l.length) : l.take (k + 1) = l.take k ++ [l.getD k default] := by
  rw [List.take_add_one, List.getElem?_eq_getElem h, List.getD_eq_getElem?_getD, List.getElem?_eq_getElem h]; rfl
theorem cnt_succ (l : List Rk) (k : Nat) (h : k < l.length) : cnt (l.take (k + 1)) = cnt (l.take k) + (l.getD k default).Gap := by
  rw [take_succ l k h, cnt_app]; simp [cnt]
theorem cnt_nn : ∀ {l : List Rk}, (∀ r ∈ l, 1 ≤ r.Gap) → (l.length : Int) ≤ cnt l
  | [], _ => by simp [cnt]
  | r :: l, h => by
    have h1 := h r List.mem_cons_self
    have h2 := cnt_nn (l := l) fun s hs => h s (List.mem_cons_of_mem _ hs)
    simp only [List.length_cons, cnt]; omega
theorem cnt_take_le {l : List Rk} (h : ∀ r ∈ l, 1 ≤ r.Gap) (k : Nat) : 0 ≤ cnt (l.take k) ∧ cnt (l.take k) ≤ cnt l := by
  have h1 := cnt_nn (l := l.take k) fun s hs => h s (List.mem_of_mem_take hs)
  have h2 := cnt_nn (l := l.drop k) fun s hs => h s (List.mem_of_mem_drop hs)
  have h3 := cnt_app (l.take k) (l.drop k)
  rw [List.take_append_drop] at h3
  omega
theorem getD_mem (l : List Rk) (k : Nat) (h : k < l.length) : l.getD k default ∈ l := by
  rw [List.getD_eq_getElem?_getD, List.getElem?_eq_getElem h]; exact List.getElem_mem h
set_option maxHeartbeats 800000 in
theorem count_any (a : Option Addr) (n cap base : Nat) (l : List Rk) (w : World) (h : Own w base (.slice a n cap) l) (hn : l.length = n) (hg : ∀ r ∈ l, 1 ≤ r.Gap) (hc : cnt l ≤ 1099511627776) :
    Calls Tryz.prog 15 #[.slice a n cap] w fun e w' => e = .returned (.int .i64 (cnt l)) ∧ Below w.heap.size w w' := by
  have HT : Hid (∀ k, 0 ≤ cnt (l.take k) ∧ cnt (l.take k) ≤ cnt l) := fun k => cnt_take_le hg k
  have HG := Lib.hid hg
  have HO := Lib.hid h
  have HN := Lib.hid hn
  have HE : Hid (l.take n = l) := List.take_of_length_le (by omega)
  have hn40 : n ≤ 1099511627776 := by have := cnt_nn hg; omega
  have HC : Hid (cnt l ≤ 1099511627776) := hc
  clear h hn hg hc
  go_enter Tryz.func15, Tryz.ntmps15
  go_wp2_with fail
  go_loopw [8, 3] (fun iv nv wr => ∃ k : Nat, k ≤ n ∧ iv = .int .i64 k ∧ nv = .int .i64 (cnt (l.take k)) ∧ Hid (Below w.heap.size w wr)) (fun iv _ _ => n - (intOf iv).toNat)
  case atStart => exact ⟨0, Nat.zero_le _, rfl, rfl, Below.refl _ _⟩
  case round =>
    obtain ⟨k, hk, rfl, rfl, HB⟩ := hrel
    by_cases hkn : k < n
    · obtain ⟨g, rfl, -, hgs, hcell⟩ := (HO.out.below HB.out (Nat.le_refl _)).at (show 0 < n by omega)
      obtain ⟨c0, c1, c2⟩ := hcell k hkn
      have HS : Hid (cnt (l.take (k + 1)) = cnt (l.take k) + (l.getD k default).Gap) := cnt_succ l k (by rw [HN.out]; exact hkn)
      have b1 := HT.out k
      have b2 := HT.out (k + 1)
      have b3 := HC.out
      have e1 := HS.out
      have hw : IntKind.i64.wrap (cnt (l.take k) + (l.getD k default).Gap) = cnt (l.take (k + 1)) := by rw [IntKind.wrap_i64, ← e1]; omega
      clear b1 b2 b3 e1 hcell HS
      obtain ⟨s', hs'⟩ : ∃ s', cnt (l.take (k + 1)) = s' := ⟨_, rfl⟩
      rw [hs'] at hw
      have HS' := Lib.hid hs'
      clear hs'
      generalize cnt (l.take k) = s at *
      generalize l.getD k default = r at *
      have hbs := HB.out.size
      go_wp2_with fail
      go_roundw
      case rel => exact ⟨k + 1, by omega, by go_num, by rw [HS'.out], HB.out.alloc hbs _⟩
      case measure => simp [intOf]; omega
    · obtain rfl : k = n := by omega
      go_wp2_with fail
      go_ret
      exact ⟨by show Ending.returned (.int .i64 (cnt (l.take k))) = _; rw [HE.out], HB.out⟩
end Go.Proofs.YthaiopgmncnekaaGreatDoor.Qu
