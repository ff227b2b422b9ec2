/- (*Int).Sign, Uint64: what they answer. No condition but that a number fits. -/
import Derived.Test.YtidnmdfpnmahpaaBigBox
set_option linter.unusedSimpArgs false
set_option linter.unusedVariables false
set_option maxRecDepth 20000
namespace Go.Proofs.Ytidnmdfpnmahpaa.Big
open Go.RowKit
theorem NA.open {w : World} {b o : Nat} {ng : Bool} {N : Nat} (h : NA w b o ng N) : ∃ a c ds, w.cell? ⟨b, o, none⟩ = some (.bool ng) ∧ w.cell? ⟨b, o + 1, none⟩ = some (.slice a ds.length c) ∧ Rd w (.slice a ds.length c) (castN ds) ∧ Canon ds ∧ val ds = N ∧ ds.length ≤ c ∧ c ≤ 9223372036854775807 ∧ (a = none → ds.length = 0 ∧ c = 0) := by
  obtain ⟨v, h1, h2, ds, h3, h4, h5, h6⟩ := h
  obtain ⟨a, c, rfl, h7, h8⟩ := h3.slice
  exact ⟨a, c, ds, h1, h2, h3, h4, h5, h7, h8, fun e => by subst e; exact h6 _ _ rfl⟩
theorem len_zero {ds : List Nat} (hc : Canon ds) : ds.length = 0 ↔ val ds = 0 := by
  constructor
  · intro h; rw [List.length_eq_zero_iff.1 h]; rfl
  · intro h; rw [val_zero hc h]; rfl
def sgnI (ng : Bool) (N : Nat) : Int := if N = 0 then 0 else if ng then -1 else 1
theorem sign_any (xb xo : Nat) (ng : Bool) (N : Nat) (w : World) (h : NA w xb xo ng N) :
    Calls Try.prog 39 #[.pointer (some ⟨xb, xo, none⟩)] w fun e w' => e = .returned (.int .i64 (sgnI ng N)) ∧ w' = w := by
  obtain ⟨a, c, ds, c0, c1, hrd, hcn, hv, h1, h2, h3⟩ := h.open
  have hz := len_zero hcn
  rw [hv] at hz
  generalize ds.length = n at *
  unfold sgnI
  by_cases h0 : N = 0
  · rw [if_pos h0]
    have hn : n = 0 := hz.2 h0
    subst hn
    clear hz h hrd hcn hv h0
    go_enter Try.func39, Try.ntmps39
    go_wp2_with fail
    go_ret
    exact ⟨rfl, rfl⟩
  · rw [if_neg h0]
    have hn : (n = 0) = False := eq_false (fun e => h0 (hz.1 e))
    have hn2 : ((n : Int) == 0) = false := by rw [beq_eq_false_iff_ne]; intro e; exact h0 (hz.1 (by omega))
    have hn3 : ((n : Int) = 0) = False := eq_false (fun e => h0 (hz.1 (by omega)))
    clear hz h hrd hcn hv h0
    cases ng
    · go_enter Try.func39, Try.ntmps39
      go_wp2_with fail
      go_ret
      exact ⟨rfl, rfl⟩
    · go_enter Try.func39, Try.ntmps39
      go_wp2_with fail
      go_ret
      exact ⟨rfl, rfl⟩
theorem or_low (a b : Nat) (ha : a < 4294967296) (hb : b < 4294967296) : bits .or .u64 ((a * 4294967296 : Nat) : Int) (b : Int) = ((b + 4294967296 * a : Nat) : Int) := by
  rw [bits_or_u64_nat _ _ (by omega) (by omega)]
  congr 1
  have := Nat.two_pow_add_eq_or_of_lt (i := 32) hb a
  rw [Nat.mul_comm a, ← show (2 : Nat) ^ 32 = 4294967296 by decide] at *
  rw [← this, Nat.add_comm]
theorem or_zero (b : Nat) (hb : b < 18446744073709551616) : bits .or .u64 (0 : Int) (b : Int) = (b : Int) := by
  have := bits_or_u64_nat 0 b (by decide) hb
  rw [Nat.zero_or] at this
  exact this
theorem min_run (n : Nat) (w : World) (m : Nat) (hm : m = min n 2) : (Builtin.min_ #[3, 3] 3 #[.int .i64 (n : Int), .int .i64 2]).run Try.prog w = .ok (.int .i64 (m : Int)) w := by
  have h2 : ∀ (x y : Int) (w : World), (Builtin.min2 (.int .i64 x) (.int .i64 y)).run Try.prog w = .ok (.int .i64 (min x y)) w := fun x y w => by
    have e : (if y < x then y else x) = min x y := by split <;> omega
    simp [Builtin.min2, e]
  have e2 : min (n : Int) 2 = (m : Int) := by omega
  simp [Builtin.min_, List.foldlM, h2, Sem.run_bind, Result.andThen, e2]
set_option maxHeartbeats 1600000 in
theorem uint_any (xb xo : Nat) (ng : Bool) (N : Nat) (w : World) (h : NA w xb xo ng N) (hN : N < 18446744073709551616) :
    Calls Try.prog 40 #[.pointer (some ⟨xb, xo, none⟩)] w fun e w' => e = .returned (.int .u64 (N : Int)) ∧ w' = w := by
  obtain ⟨a, c, ds, c0, c1, hrd, hcn, hv, h1, h2, h3⟩ := h.open
  have hl : ds.length ≤ 2 := (len_iff hcn 2).2 (by rw [hv]; exact hN)
  match ds, hl with
  | [], _ =>
    have hm : ∀ w : World, (Builtin.min_ #[3, 3] 3 #[.int .i64 0, .int .i64 2]).run Try.prog w = .ok (.int .i64 0) w := fun w => min_run 0 w 0 (by decide)
    obtain rfl : N = 0 := hv.symm
    clear h hrd hcn hv h3
    go_enter Try.func40, Try.ntmps40
    go_wp2_with fail
    refine wp_loop_rounds 1 ?_; rw [rounds_succ]
    go_wp2_with fail
    go_ret
    exact ⟨rfl, rfl⟩
  | [x], _ =>
    have hm : ∀ w : World, (Builtin.min_ #[3, 3] 3 #[.int .i64 1, .int .i64 2]).run Try.prog w = .ok (.int .i64 1) w := fun w => min_run 1 w 1 (by decide)
    obtain ⟨b, off, rfl, hb, hcc⟩ := hrd.at (by simp)
    have cx : w.cell? ⟨b, off, none⟩ = some (.int .u32 (x : Int)) := hcc 0 (by simp)
    have hx := hcn.1
    obtain rfl : x = N := by simpa [val] using hv
    have c1' : w.cell? ⟨xb, xo + 1, none⟩ = some (.slice (some ⟨b, off, none⟩) 1 c) := c1
    have h1' : 1 ≤ c := h1
    clear h hrd hcn hv h3 hcc c1 h1
    go_enter Try.func40, Try.ntmps40
    go_wp2_with fail
    refine wp_loop_rounds 2 ?_; rw [rounds_succ]
    go_wp2_with fail
    rw [rounds_succ]
    go_wp2_with fail
    go_ret
    exact ⟨by rw [or_zero x (by omega)]; rfl, rfl⟩
  | [x, y], _ =>
    have hm : ∀ w : World, (Builtin.min_ #[3, 3] 3 #[.int .i64 2, .int .i64 2]).run Try.prog w = .ok (.int .i64 2) w := fun w => min_run 2 w 2 (by decide)
    obtain ⟨b, off, rfl, hb, hcc⟩ := hrd.at (by simp)
    have cx : w.cell? ⟨b, off, none⟩ = some (.int .u32 (x : Int)) := hcc 0 (by simp)
    have cy : w.cell? ⟨b, off + 1, none⟩ = some (.int .u32 (y : Int)) := hcc 1 (by simp)
    have hx := hcn.1
    have hy := hcn.2.1.1
    obtain rfl : x + 4294967296 * y = N := by simpa [val] using hv
    have c1' : w.cell? ⟨xb, xo + 1, none⟩ = some (.slice (some ⟨b, off, none⟩) 2 c) := c1
    have h1' : 2 ≤ c := h1
    clear h hrd hcn hv h3 hcc c1 h1
    go_enter Try.func40, Try.ntmps40
    go_wp2_with fail
    refine wp_loop_rounds 3 ?_; rw [rounds_succ]
    go_wp2_with fail
    rw [rounds_succ]
    go_wp2_with fail
    rw [rounds_succ]
    go_wp2_with fail
    go_ret
    refine ⟨?_, rfl⟩
    rw [or_zero y (by omega), show IntKind.u64.wrap ((y : Int) * 4294967296) = ((y * 4294967296 : Nat) : Int) by rw [IntKind.wrap_u64]; omega, or_low y x hy hx]
    rfl
end Go.Proofs.Ytidnmdfpnmahpaa.Big
