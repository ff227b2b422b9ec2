/- slices.Min, slices.Max at []int. No condition but one element. -/
import Derived.Test.YtompkgkfjlapjaaGen
set_option linter.unusedSimpArgs false
set_option linter.unusedVariables false
namespace Go.Proofs.Ytompkgkfjlapjaa
open Go.RowKit
set_option maxHeartbeats 800000 in
theorem max_any (v : Value) (zs : List Int) (w : World) (h : Rd w v zs) (h0 : 0 < zs.length) :
    Calls Try.prog 10 #[v] w fun e w' => ∃ m : Int, e = .returned (.int .i64 m) ∧ (∀ k, k < zs.length → zs.getD k 0 ≤ m) ∧ (∃ k, k < zs.length ∧ zs.getD k 0 = m) ∧ w = w' := by
  obtain ⟨a, cap, rfl, hlc, hcm, hop⟩ := h.open
  obtain ⟨b, off, rfl, hbl, hc⟩ := hop 0 h0
  have HC := Lib.hid hc
  have c0 := hc 0 h0
  rw [Nat.add_zero] at c0
  clear h hop hc
  obtain ⟨n, hn⟩ : ∃ n, zs.length = n := ⟨_, rfl⟩
  rw [hn] at hlc h0 HC ⊢
  clear hn
  go_enter Try.func10, Try.ntmps10
  go_wp2_with fail
  clear c0
  go_loop [3, 4] (fun mv iv => ∃ (i : Nat) (m : Int), i ≤ n ∧ 0 < i ∧ iv = .int .i64 i ∧ mv = .int .i64 m ∧ Hid (∀ k, k < i → zs.getD k 0 ≤ m) ∧ Hid (∃ k, k < n ∧ zs.getD k 0 = m)) (fun _ iv => n - (intOf iv).toNat)
  case atStart => exact ⟨1, _, by omega, by omega, rfl, rfl, fun k hk => by rw [show k = 0 by omega]; exact Int.le_refl _, ⟨0, h0, rfl⟩⟩
  case round =>
    obtain ⟨i, m, hi, hi0, rfl, rfl, hall, hex⟩ := hrel
    by_cases hlt : i < n
    · have ci := HC.out i hlt
      generalize hx : zs.getD i 0 = x at *
      have HX := Lib.hid hx
      clear hx
      by_cases hxm : m < x
      · have HN : Hid (∀ k, k < i + 1 → zs.getD k 0 ≤ x) := fun k hk => by
          by_cases e : k = i
          · subst e; rw [HX.out]; exact Int.le_refl _
          · have := hall.out k (by omega); omega
        go_wp2_with fail
        exact ⟨⟨i + 1, _, by omega, by omega, by go_num, rfl, HN, ⟨i, hlt, HX.out⟩⟩, by simp [intOf]; omega⟩
      · have HN : Hid (∀ k, k < i + 1 → zs.getD k 0 ≤ m) := fun k hk => by
          by_cases e : k = i
          · subst e; rw [HX.out]; omega
          · exact hall.out k (by omega)
        go_wp2_with fail
        exact ⟨⟨i + 1, _, by omega, by omega, by go_num, rfl, HN, hex⟩, by simp [intOf]; omega⟩
    · obtain rfl : i = n := by omega
      go_wp2_with fail
      go_ret
      exact ⟨_, rfl, hall.out, hex.out, rfl⟩
set_option maxHeartbeats 800000 in
theorem min_any (v : Value) (zs : List Int) (w : World) (h : Rd w v zs) (h0 : 0 < zs.length) :
    Calls Try.prog 9 #[v] w fun e w' => ∃ m : Int, e = .returned (.int .i64 m) ∧ (∀ k, k < zs.length → m ≤ zs.getD k 0) ∧ (∃ k, k < zs.length ∧ zs.getD k 0 = m) ∧ w = w' := by
  obtain ⟨a, cap, rfl, hlc, hcm, hop⟩ := h.open
  obtain ⟨b, off, rfl, hbl, hc⟩ := hop 0 h0
  have HC := Lib.hid hc
  have c0 := hc 0 h0
  rw [Nat.add_zero] at c0
  clear h hop hc
  obtain ⟨n, hn⟩ : ∃ n, zs.length = n := ⟨_, rfl⟩
  rw [hn] at hlc h0 HC ⊢
  clear hn
  go_enter Try.func9, Try.ntmps9
  go_wp2_with fail
  clear c0
  go_loop [3, 4] (fun mv iv => ∃ (i : Nat) (m : Int), i ≤ n ∧ 0 < i ∧ iv = .int .i64 i ∧ mv = .int .i64 m ∧ Hid (∀ k, k < i → m ≤ zs.getD k 0) ∧ Hid (∃ k, k < n ∧ zs.getD k 0 = m)) (fun _ iv => n - (intOf iv).toNat)
  case atStart => exact ⟨1, _, by omega, by omega, rfl, rfl, fun k hk => by rw [show k = 0 by omega]; exact Int.le_refl _, ⟨0, h0, rfl⟩⟩
  case round =>
    obtain ⟨i, m, hi, hi0, rfl, rfl, hall, hex⟩ := hrel
    by_cases hlt : i < n
    · have ci := HC.out i hlt
      generalize hx : zs.getD i 0 = x at *
      have HX := Lib.hid hx
      clear hx
      by_cases hxm : x < m
      · have HN : Hid (∀ k, k < i + 1 → x ≤ zs.getD k 0) := fun k hk => by
          by_cases e : k = i
          · subst e; rw [HX.out]; exact Int.le_refl _
          · have := hall.out k (by omega); omega
        go_wp2_with fail
        exact ⟨⟨i + 1, _, by omega, by omega, by go_num, rfl, HN, ⟨i, hlt, HX.out⟩⟩, by simp [intOf]; omega⟩
      · have HN : Hid (∀ k, k < i + 1 → m ≤ zs.getD k 0) := fun k hk => by
          by_cases e : k = i
          · subst e; rw [HX.out]; omega
          · exact hall.out k (by omega)
        go_wp2_with fail
        exact ⟨⟨i + 1, _, by omega, by omega, by go_num, rfl, HN, hex⟩, by simp [intOf]; omega⟩
    · obtain rfl : i = n := by omega
      go_wp2_with fail
      go_ret
      exact ⟨_, rfl, hall.out, hex.out, rfl⟩
end Go.Proofs.Ytompkgkfjlapjaa
