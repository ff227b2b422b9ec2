/- chain.sum, total: the sum of a row. Condition: small numbers, few of them. -/
import Derived.Test.YtidnmdfpnmahpaaWrong
set_option linter.unusedSimpArgs false
set_option linter.unusedVariables false
set_option maxRecDepth 20000
namespace Go.Proofs.Ytidnmdfpnmahpaa
open Go.RowKit
theorem own_slice {w : World} {base n : Nat} {e : TypeId} {v : Value} {zs : List Int} (h : w.ownsRow base e 1 v n (zs.map (Value.int .i64))) : ∃ a k, v = .slice a n k := by
  rcases h.2 with ⟨rfl, rfl⟩ | ⟨g, cap, cur, rfl, _⟩
  · exact ⟨none, 0, rfl⟩
  · exact ⟨_, _, rfl⟩
theorem sumL_nn : ∀ l : List Int, (∀ x ∈ l, 0 ≤ x ∧ x ≤ 1000000) → 0 ≤ sumL l ∧ sumL l ≤ 1000000 * l.length
  | [], _ => by simp [sumL]
  | x :: r, h => by
    have h1 := sumL_nn r fun y hy => h y (List.mem_cons_of_mem _ hy)
    have h2 := h x List.mem_cons_self
    unfold sumL
    rw [List.length_cons]
    omega
theorem getD_mem {α : Type} (l : List α) (i : Nat) (d : α) (h : i < l.length) : l.getD i d ∈ l := by
  rw [List.getD_eq_getElem?_getD, List.getElem?_eq_getElem h]; exact List.getElem_mem _
set_option maxHeartbeats 800000 in
theorem sum_any (a : Option Addr) (n c : Nat) (r : List Int) (w : World) (h : Rd w (.slice a n c) r) (hb : ∀ x ∈ r, 0 ≤ x ∧ x ≤ 1000000) (hn : n ≤ 1000) :
    Calls Try.prog 19 #[.slice a n c] w fun e w' => e = .returned (.int .i64 (sumL r)) ∧ w = w' := by
  obtain ⟨hl, hc1, hc2⟩ := h.lenEq
  have HR := Lib.hid h
  have HL := Lib.hid hl
  have HB : Hid (∀ j, 0 ≤ sumL (r.take j) ∧ sumL (r.take j) ≤ 1000000000) := fun j => by
    have h1 := sumL_nn (r.take j) fun x hx => hb x (List.mem_of_mem_take hx)
    have h2 : (r.take j).length ≤ 1000 := by rw [List.length_take]; omega
    omega
  have HT : Hid (∀ j, j < n → sumL (r.take (j + 1)) = sumL (r.take j) + r.getD j 0) := fun j hj => sumL_take r j (by rw [HL.out]; exact hj)
  have HX : Hid (∀ j, j < n → 0 ≤ r.getD j 0 ∧ r.getD j 0 ≤ 1000000) := fun j hj => hb _ (getD_mem r j 0 (by rw [HL.out]; exact hj))
  have HA : Hid (sumL (r.take n) = sumL r) := by show _ = _; rw [List.take_of_length_le (by rw [HL.out]; exact Nat.le_refl _)]
  clear h hl hb
  go_enter Try.func19, Try.ntmps19
  go_wp2_with fail
  go_loop [8, 3] (fun jv sv => ∃ j : Nat, j ≤ n ∧ jv = .int .i64 j ∧ sv = .int .i64 (sumL (r.take j))) (fun jv _ => n - (intOf jv).toNat)
  case atStart => exact ⟨0, Nat.zero_le _, rfl, rfl⟩
  case round =>
    obtain ⟨j, hj, rfl, rfl⟩ := hrel
    by_cases hjl : j < n
    · obtain ⟨b, off, rfl, hb, hc⟩ := HR.out.at (by omega)
      have cx := hc j hjl
      have hs := HB.out j
      obtain ⟨hs1, hs2⟩ := hs
      obtain ⟨hx1, hx2⟩ := HX.out j hjl
      have HTj := Lib.hid (HT.out j hjl)
      have hjI : (j : Int) < (n : Int) := by omega
      clear hc
      generalize r.getD j 0 = x at *
      generalize sumL (r.take j) = s at *
      go_wp2_with fail
      go_round
      case rel => exact ⟨j + 1, by omega, by go_num, by rw [HTj.out]⟩
      case measure => simp [intOf]; omega
    · obtain rfl : j = n := by omega
      rw [HA.out]
      go_wp2_with fail
      go_ret
      exact ⟨rfl, rfl⟩
set_option maxHeartbeats 800000 in
theorem total_any (a : Option Addr) (n c : Nat) (r : List Int) (w : World) (h : Rd w (.slice a n c) r) (hb : ∀ x ∈ r, 0 ≤ x ∧ x ≤ 1000000) (hn : n ≤ 1000) :
    Calls Try.prog 11 #[.slice a n c] w fun e w' => e = .returned (.int .i64 (sumL r)) ∧ w = w' := by
  obtain ⟨hl, hc1, hc2⟩ := h.lenEq
  have HR := Lib.hid h
  have HL := Lib.hid hl
  have HB : Hid (∀ j, 0 ≤ sumL (r.take j) ∧ sumL (r.take j) ≤ 1000000000) := fun j => by
    have h1 := sumL_nn (r.take j) fun x hx => hb x (List.mem_of_mem_take hx)
    have h2 : (r.take j).length ≤ 1000 := by rw [List.length_take]; omega
    omega
  have HT : Hid (∀ j, j < n → sumL (r.take (j + 1)) = sumL (r.take j) + r.getD j 0) := fun j hj => sumL_take r j (by rw [HL.out]; exact hj)
  have HX : Hid (∀ j, j < n → 0 ≤ r.getD j 0 ∧ r.getD j 0 ≤ 1000000) := fun j hj => hb _ (getD_mem r j 0 (by rw [HL.out]; exact hj))
  have HA : Hid (sumL (r.take n) = sumL r) := by show _ = _; rw [List.take_of_length_le (by rw [HL.out]; exact Nat.le_refl _)]
  clear h hl hb
  go_enter Try.func11, Try.ntmps11
  go_wp2_with fail
  go_loop [8, 3] (fun jv sv => ∃ j : Nat, j ≤ n ∧ jv = .int .i64 j ∧ sv = .int .i64 (sumL (r.take j))) (fun jv _ => n - (intOf jv).toNat)
  case atStart => exact ⟨0, Nat.zero_le _, rfl, rfl⟩
  case round =>
    obtain ⟨j, hj, rfl, rfl⟩ := hrel
    by_cases hjl : j < n
    · obtain ⟨b, off, rfl, hb, hc⟩ := HR.out.at (by omega)
      have cx := hc j hjl
      have hs := HB.out j
      obtain ⟨hs1, hs2⟩ := hs
      obtain ⟨hx1, hx2⟩ := HX.out j hjl
      have HTj := Lib.hid (HT.out j hjl)
      have hjI : (j : Int) < (n : Int) := by omega
      clear hc
      generalize r.getD j 0 = x at *
      generalize sumL (r.take j) = s at *
      go_wp2_with fail
      go_round
      case rel => exact ⟨j + 1, by omega, by go_num, by rw [HTj.out]⟩
      case measure => simp [intOf]; omega
    · obtain rfl : j = n := by omega
      rw [HA.out]
      go_wp2_with fail
      go_ret
      exact ⟨rfl, rfl⟩
end Go.Proofs.Ytidnmdfpnmahpaa
