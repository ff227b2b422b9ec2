/- The walk of LfsrLongest. No condition. -/
import Derived.Test.YtfjeabfjghabhaaLfsrMixW
import Derived.Deep.RegionWith
set_option linter.unusedSimpArgs false
set_option linter.unusedVariables false
namespace Go.Proofs.Ytfjeabfjghabhaa.lfsrLongest
open Go.RowKit Go.Proofs.Ytfjeabfjghabhaa
def tp (n : Nat) : Nat := [0, 1, 3, 6, 12, 20, 48, 96, 184].getD n 0
/-- How many of the first m bits are set. -/
def cnt (f : Nat → Bool) : Nat → Nat
  | 0 => 0
  | k + 1 => if f k then cnt f k + 1 else cnt f k
theorem cnt_le (f : Nat → Bool) : ∀ k, cnt f k ≤ k
  | 0 => Nat.le_refl _
  | k + 1 => by have := cnt_le f k; rw [cnt]; split <;> omega
theorem tp_ok : ∀ n, n < 9 → 1 ≤ n → OkT (n : Nat) (tp n) := by decide +kernel
theorem tp_per : ∀ n, n < 9 → 1 ≤ n → it n (tp n) (2 ^ n - 1) 1 = 1 := by decide +kernel
theorem tp_no : ∀ n, n < 9 → 1 ≤ n → ∀ j, j < 2 ^ n - 1 → 0 < j → it n (tp n) j 1 ≠ 1 := by decide +kernel
theorem tp_cnt : ∀ n, n < 9 → 1 ≤ n → cnt (topb n (tp n) 1) (2 ^ n - 1) = 2 ^ (n - 1) := by decide +kernel
theorem tp_lt : ∀ n, n < 9 → tp n < 256 := by decide
set_option maxHeartbeats 1600000 in
set_option maxRecDepth 20000 in
theorem walk_ok (n : Nat) (hn1 : 1 ≤ n) (hn : n < 9) (w : World) :
    Calls Try.prog 5 #[.int .i64 n] w fun e w' => e = .returned (.bool true) ∧ Below w.heap.size w w' := by
  have hk := tp_ok n hn hn1
  have hs : 1 < 2 ^ n := Nat.one_lt_two_pow (by omega)
  have hq : 2 ^ n ≤ 256 := Nat.pow_le_pow_right (by omega) (show n ≤ 8 by omega)
  have HP : Hid (∀ w, Calls Try.prog 9 #[.int .i64 n, .int .u32 (tp n : Nat), .int .u32 1] w fun e w' => (∃ q, w' = w.drewN q) ∧ e = .returned (.tuple #[.int .i64 ((2 ^ n - 1 : Nat) : Int), .int .i64 0])) := fun w => by
    refine Calls.mono (period_ok n (tp n) 1 hk hs w) ?_
    rintro e w' ⟨hq, p, rfl, h1, -, h2, h3⟩
    refine ⟨hq, ?_⟩
    have : p = 2 ^ n - 1 := per_one h1 h2 h3 (by omega) (tp_per n hn hn1) (fun j a b => tp_no n hn hn1 j b a)
    subst this; rfl
  have HR := Lib.hid (row_ok n (tp n) 1 (2 ^ n - 1) hk hs (by omega))
  have HC := Lib.hid (tp_cnt n hn hn1)
  have hw : (2 : Int) ^ n = ((2 ^ n : Nat) : Int) := by rw [Int.natCast_pow]; rfl
  have hv : (2 : Int) ^ (n - 1) = ((2 ^ (n - 1) : Nat) : Int) := by rw [Int.natCast_pow]; rfl
  have hq2 : 2 ^ (n - 1) ≤ 256 := Nat.le_trans (Nat.pow_le_pow_right (by omega) (by omega)) hq
  have HT : Hid (∀ w : World, (w.alloc (.cells #[.int .u32 0, .int .u32 1, .int .u32 3, .int .u32 6, .int .u32 12, .int .u32 20, .int .u32 48, .int .u32 96, .int .u32 184] 22)).cell? ⟨w.heap.size, n, none⟩ = some (.int .u32 (tp n : Nat))) := fun w => by
    rw [cell_of_row _ _ _ _ _ _ (heap_alloc_new w _)]
    have : n = 1 ∨ n = 2 ∨ n = 3 ∨ n = 4 ∨ n = 5 ∨ n = 6 ∨ n = 7 ∨ n = 8 := by omega
    rcases this with rfl | rfl | rfl | rfl | rfl | rfl | rfl | rfl <;> rfl
  clear hk
  obtain ⟨P, hPP⟩ : ∃ P, 2 ^ n = P := ⟨_, rfl⟩
  obtain ⟨Q, hQQ⟩ : ∃ Q, 2 ^ (n - 1) = Q := ⟨_, rfl⟩
  rw [hPP] at hw hq hs HP HR HC
  rw [hQQ] at hv hq2 HC
  clear hPP hQQ
  obtain ⟨M, hM⟩ : ∃ M, P - 1 = M := ⟨_, rfl⟩
  rw [hM] at HP HR HC
  have hpm : (P : Int) - 1 = (M : Int) := by omega
  have hMl : M ≤ 256 := by omega
  have hwM : IntKind.i64.wrap (M : Int) = (M : Int) := by rw [IntKind.wrap_i64]; omega
  have f1 : decide ((n : Int) < 1) = false := decide_eq_false (by omega)
  have f2 : decide ((9 : Int) ≤ (n : Int)) = false := decide_eq_false (by omega)
  generalize topb n (tp n) 1 = f at *
  generalize tp n = t at *
  clear hM
  go_enter Try.func5, Try.ntmps5
  go_wp2_with fail
  refine (alive_any _).mono ?_
  rintro e w1 ⟨rfl, hb⟩
  have H1 := Lib.hid hb
  clear hb
  have c1 := HT.out w1
  go_wp2_with fail
  refine (HP.out _).mono ?_
  rintro e w2 ⟨⟨q, rfl⟩, rfl⟩
  have k1 : IntKind.i64.wrap (P : Int) = (P : Int) := by rw [IntKind.wrap_i64]; omega
  have k2 : ((9 : Int) ≤ (n : Int)) = False := eq_false (by omega)
  have k3 : (9 ≤ n) = False := eq_false (by omega)
  have k4 : ((n : Int) < 9) = True := eq_true (by omega)
  have HBQ := Lib.hid (H1.out.alloc H1.out.size (.cells #[.int .u32 0, .int .u32 1, .int .u32 3, .int .u32 6, .int .u32 12, .int .u32 20, .int .u32 48, .int .u32 96, .int .u32 184] 22) |>.drewN q)
  have c2 : ((w1.alloc (.cells #[.int .u32 0, .int .u32 1, .int .u32 3, .int .u32 6, .int .u32 12, .int .u32 20, .int .u32 48, .int .u32 96, .int .u32 184] 22)).drewN q).cell? ⟨w1.heap.size, n, none⟩ = some (.int .u32 (t : Nat)) := c1
  generalize (w1.alloc (.cells #[.int .u32 0, .int .u32 1, .int .u32 3, .int .u32 6, .int .u32 12, .int .u32 20, .int .u32 48, .int .u32 96, .int .u32 184] 22)).drewN q = wq at *
  clear c1
  go_wp2_with fail
  go_region_with (go_at_call 10; refine (HR.out _).mono ?_; rintro e w3 ⟨hb3, v, rfl, hr⟩)
  have H3 := Lib.hid (HBQ.out.drewN 1 |>.trans (hb3.mono HBQ.out.size))
  obtain ⟨a, cap, rfl, hlc, hcm, hop⟩ := hr.open
  have HOP := Lib.hid hop
  have hl : (tabB M f).length = M := tabB_len _ _
  rw [hl] at hlc HOP ⊢
  clear hb3 hr hop hl HT HP HR
  go_wp2_with fail
  go_loop [45, 8, 10] (fun iv sv _ => ∃ i : Nat, i ≤ M ∧ iv = .int .i64 i ∧ sv = .int .i64 (cnt f i : Nat)) (fun iv _ _ => M - (intOf iv).toNat)
  case atStart => exact ⟨0, Nat.zero_le _, rfl, rfl⟩
  case round =>
    obtain ⟨i, hi, rfl, rfl⟩ := hrel
    by_cases hlt : i < M
    · obtain ⟨b, off, rfl, hb, hc⟩ := HOP.out i hlt
      have cx := hc i hlt
      rw [tabB_get _ _ _ hlt] at cx
      have HN : Hid (cnt f (i + 1) = if f i then cnt f i + 1 else cnt f i) := rfl
      have hcl := cnt_le f i
      clear hc
      generalize cnt f i = s at *
      cases hfi : f i with
      | true =>
        rw [hfi] at HN cx
        rw [if_pos rfl] at HN
        go_wp2_with fail
        exact ⟨⟨i + 1, by omega, by go_num, by rw [HN.out]; go_num⟩, by simp [intOf]; omega⟩
      | false =>
        rw [hfi] at HN cx
        rw [if_neg (by simp)] at HN
        go_wp2_with fail
        exact ⟨⟨i + 1, by omega, by go_num, by rw [HN.out]⟩, by simp [intOf]; omega⟩
    · obtain rfl : i = M := by omega
      rw [HC.out]
      go_wp2_with fail
      go_ret
      exact ⟨by simp, H3.out⟩
theorem walk (a0 : Int) (w : World) (w0 : (Lit.int .i64 a0).wf = true) :
    Calls Try.prog 5 #[.int .i64 a0] w fun e w' => e = .returned (.bool true) ∧ Below w.heap.size w w' := by
  by_cases k1 : a0 < 1
  · have f1 : decide (a0 < 1) = true := decide_eq_true k1
    go_enter Try.func5, Try.ntmps5
    go_wp2_with fail
    refine (alive_any _).mono ?_
    rintro e w1 ⟨rfl, hb⟩
    have H1 := Lib.hid hb
    clear hb
    go_wp2_with fail
    go_ret
    exact ⟨rfl, H1.out.alloc H1.out.size _⟩
  · have f1 : decide (a0 < 1) = false := decide_eq_false k1
    by_cases k2 : 9 ≤ a0
    · have f2 : decide (9 ≤ a0) = true := decide_eq_true k2
      go_enter Try.func5, Try.ntmps5
      go_wp2_with fail
      refine (alive_any _).mono ?_
      rintro e w1 ⟨rfl, hb⟩
      have H1 := Lib.hid hb
      clear hb
      go_wp2_with fail
      go_ret
      exact ⟨rfl, H1.out.alloc H1.out.size _⟩
    · obtain ⟨n, rfl⟩ : ∃ n : Nat, a0 = n := ⟨a0.toNat, by omega⟩
      exact walk_ok n (by omega) (by omega) w
end Go.Proofs.Ytfjeabfjghabhaa.lfsrLongest
