/- slices.Max and slices.Index at []int: the greatest element; the first place of one that is there. No condition but one element. -/
import Derived.Test.YthnalgkojoeniaaOf
set_option linter.unusedSimpArgs false
set_option linter.unusedVariables false
namespace Go.Proofs.Ythnalgkojoeniaa
open Go.RowKit
set_option maxHeartbeats 800000 in
theorem max_any (v : Value) (zs : List Int) (w : World) (h : Rd w v zs) (h0 : 0 < zs.length) :
    Calls Try.prog 26 #[v] w fun e w' => ∃ m : Int, e = .returned (.int .i64 m) ∧ (∃ k, k < zs.length ∧ zs.getD k 0 = m) ∧ (∀ k, k < zs.length → zs.getD k 0 ≤ m) ∧ w' = w := by
  obtain ⟨a, cap, rfl, hlc, hcm, hop⟩ := h.open
  obtain ⟨b, off, rfl, hbl, hc⟩ := hop 0 h0
  have HC := Lib.hid hc
  have c0 := hc 0 h0
  rw [Nat.add_zero] at c0
  clear h hop hc
  obtain ⟨n, hn⟩ : ∃ n, zs.length = n := ⟨_, rfl⟩
  rw [hn] at hlc h0 HC ⊢
  clear hn
  go_enter Try.func26, Try.ntmps26
  go_wp2_with fail
  clear c0
  go_loop [3, 4] (fun mv iv => ∃ (i : Nat) (m : Int), i ≤ n ∧ 0 < i ∧ iv = .int .i64 i ∧ mv = .int .i64 m ∧ Hid (∃ k, k < i ∧ zs.getD k 0 = m) ∧ Hid (∀ k, k < i → zs.getD k 0 ≤ m)) (fun _ iv => n - (intOf iv).toNat)
  case atStart => exact ⟨1, _, by omega, by omega, rfl, rfl, ⟨0, by omega, rfl⟩, fun k hk => by rw [show k = 0 by omega]; exact Int.le_refl _⟩
  case round =>
    obtain ⟨i, m, hi, hi0, rfl, rfl, hex, hall⟩ := hrel
    by_cases hlt : i < n
    · have ci := HC.out i hlt
      generalize hx : zs.getD i 0 = x at *
      have HX := Lib.hid hx
      clear hx
      by_cases hxm : m < x
      · have HN : Hid (∀ k, k < i + 1 → zs.getD k 0 ≤ x) := fun k hk => by
          by_cases e : k = i
          · subst e; rw [HX.out]; exact Int.le_refl _
          · have := hall.out k (by omega); omega
        have HE : Hid (∃ k, k < i + 1 ∧ zs.getD k 0 = x) := ⟨i, by omega, HX.out⟩
        go_wp2_with fail
        exact ⟨⟨i + 1, _, by omega, by omega, by go_num, rfl, HE, HN⟩, by simp [intOf]; omega⟩
      · have HN : Hid (∀ k, k < i + 1 → zs.getD k 0 ≤ m) := fun k hk => by
          by_cases e : k = i
          · subst e; rw [HX.out]; omega
          · exact hall.out k (by omega)
        have HE : Hid (∃ k, k < i + 1 ∧ zs.getD k 0 = m) := by obtain ⟨k, h1, h2⟩ := hex.out; exact ⟨k, by omega, h2⟩
        go_wp2_with fail
        exact ⟨⟨i + 1, _, by omega, by omega, by go_num, rfl, HE, HN⟩, by simp [intOf]; omega⟩
    · obtain rfl : i = n := by omega
      go_wp2_with fail
      go_ret
      exact ⟨_, rfl, hex.out, hall.out, rfl⟩
set_option maxHeartbeats 800000 in
theorem index_any (v : Value) (zs : List Int) (x : Int) (k : Nat) (w : World) (h : Rd w v zs) (hk : k < zs.length) (hx : zs.getD k 0 = x) (hno : ∀ j, j < k → zs.getD j 0 ≠ x) :
    Calls Try.prog 25 #[v, .int .i64 x] w fun e w' => e = .returned (.int .i64 k) ∧ w' = w := by
  obtain ⟨a, cap, rfl, hlc, hcm, hop⟩ := h.open
  obtain ⟨b, off, rfl, hbl, hc⟩ := hop k hk
  have HC := Lib.hid hc
  have HNO := Lib.hid hno
  have HX := Lib.hid hx
  clear h hop hc hno hx
  obtain ⟨n, hn⟩ : ∃ n, zs.length = n := ⟨_, rfl⟩
  rw [hn] at hlc hk HC ⊢
  clear hn
  go_enter Try.func25, Try.ntmps25
  go_wp2_with fail
  go_loop [8, 5] (fun iv _ => ∃ i : Nat, i ≤ k ∧ iv = .int .i64 i) (fun iv _ => n - (intOf iv).toNat)
  case atStart => exact ⟨0, Nat.zero_le _, rfl⟩
  case round =>
    obtain ⟨i, hi, rfl⟩ := hrel
    by_cases hlt : i < k
    · have hlt2 : i < n := by omega
      have ci := HC.out i hlt2
      have hne := HNO.out i hlt
      generalize zs.getD i 0 = y at *
      have hb : (x == y) = false := by simpa using fun e => hne e.symm
      have hb2 : (x = y) = False := eq_false fun e => hne e.symm
      clear hne
      go_wp2_with fail
      exact ⟨⟨i + 1, by omega, by go_num⟩, by simp [intOf]; omega⟩
    · obtain rfl : i = k := by omega
      have ci := HC.out i hk
      rw [HX.out] at ci
      go_wp2_with fail
      go_ret
      exact ⟨rfl, rfl⟩
end Go.Proofs.Ythnalgkojoeniaa
