/- slices.IsSorted at []int: what it answers. No condition. -/
import Derived.Test.YtdneljpimocgfaaGen
import Derived.BigQuiet
import Derived.Deep.QuietTactic
set_option linter.unusedSimpArgs false
set_option linter.unusedVariables false
namespace Go.Proofs.Ytdneljpimocgfaa
open Go.RowKit
theorem isnan_any (x : Int) (w : World) : Calls Try.prog 20 #[.int .i64 x] w fun e w' => e = .returned (.bool false) ∧ w' = w := by
  go_enter Try.func20, Try.ntmps20
  go_wp2_with fail
  go_ret
  exact ⟨by simp, rfl⟩
theorem less_any (x y : Int) (w : World) : Calls Try.prog 19 #[.int .i64 x, .int .i64 y] w fun e w' => e = .returned (.bool (decide (x < y))) ∧ w' = w := by
  go_enter Try.func19, Try.ntmps19
  go_wp2_with fail
  refine (isnan_any _ _).mono ?_
  rintro e w' ⟨rfl, rfl⟩
  go_wp2_with fail
  go_ret
  exact ⟨by simp, rfl⟩
set_option maxHeartbeats 400000 in
theorem issorted_yes (v : Value) (zs : List Int) (hs : ∀ i, i + 1 < zs.length → zs.getD i 0 ≤ zs.getD (i + 1) 0) (w : World) (h : Rd w v zs) : Calls Try.prog 18 #[v] w fun e w' => e = .returned (.bool true) ∧ Below w.heap.size w w' := by
  obtain ⟨a, cap, rfl, hlc, hcm, hop⟩ := h.open
  have HR := Lib.hid h; clear h
  have HO := Lib.hid hop; clear hop
  have HS := Lib.hid hs; clear hs
  generalize hn : zs.length = n at *
  have HN := Lib.hid hn; clear hn
  go_enter Try.func18, Try.ntmps18
  go_wp2_with fail
  go_loopw [3] (fun i wr => ∃ k : Int, -1 ≤ k ∧ k < n ∧ i = .int .i64 k ∧ Below w.heap.size w wr) (fun i _ => (intOf i).toNat)
  case atStart => exact ⟨(n : Int) - 1, by omega, by omega, rfl, Below.refl _ _⟩
  case round =>
    obtain ⟨k, hk1, hk2, rfl, hbel⟩ := hrel
    by_cases hlt : 0 < k
    · obtain ⟨j, rfl⟩ : ∃ j : Nat, k = (j : Int) := ⟨k.toNat, by omega⟩
      obtain ⟨b, off, rfl, hb, hc⟩ := HO.out 0 (by omega)
      have c1 : wr.cell? ⟨b, off + j, none⟩ = some (.int .i64 (zs.getD j 0)) := (hbel.cell (p := ⟨b, off + j, none⟩) hb).trans (hc j (by omega))
      have c2 : wr.cell? ⟨b, off + (j - 1), none⟩ = some (.int .i64 (zs.getD (j - 1) 0)) := (hbel.cell (p := ⟨b, off + (j - 1), none⟩) hb).trans (hc (j - 1) (by omega))
      have hle : ¬ zs.getD j 0 < zs.getD (j - 1) 0 := by
        have := HS.out (j - 1) (by omega)
        rw [show j - 1 + 1 = j by omega] at this
        omega
      have hle2 : decide (zs.getD j 0 < zs.getD (j - 1) 0) = false := by simpa using hle
      generalize zs.getD j 0 = x at *
      generalize zs.getD (j - 1) 0 = y at *
      clear hc
      have e0 : 0 ≤ (j : Int) - 1 := by omega
      have e3 : (j : Int) - 1 < (n : Int) := by omega
      have e1 : IntKind.i64.wrap ((j : Int) - 1) = (j : Int) - 1 := IntWalk.i64_in _ (by omega)
      have e2 : ((j : Int) - 1).toNat = j - 1 := by omega
      go_wp2_with fail
      go_quiet ((go_at_call 19; exact Calls.quiet_of_same (less_any _ _ _)))
      clear e1 e2
      go_wp2_with fail
      go_roundw
      case rel => exact ⟨(j : Int) - 1, by omega, by omega, rfl, hbel.drewN _⟩
      case measure => simp [intOf]; omega
    · go_wp2_with fail
      go_ret
      exact ⟨by simp, hbel⟩
end Go.Proofs.Ytdneljpimocgfaa
