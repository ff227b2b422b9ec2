/- Mix, rank, cmp.Compare and the closure of Join: what they answer; Mix is injective. No condition. -/
import Derived.Test.YticodfdonpookaaW64
import Derived.RegionTactic
import Derived.ChangeAlike
set_option linter.unusedSimpArgs false
set_option linter.unusedVariables false
set_option maxRecDepth 20000
namespace Go.Proofs.Yticodfdonpookaa
open Go.RowKit
attribute [local go_sem] xor_U
theorem d30 (x : BitVec 64) : U x / (1073741824 : Int) = U (x >>> 30) := div_U x 30
theorem d27 (x : BitVec 64) : U x / (134217728 : Int) = U (x >>> 27) := div_U x 27
theorem d31 (x : BitVec 64) : U x / (2147483648 : Int) = U (x >>> 31) := div_U x 31
theorem m1 (x : BitVec 64) : IntKind.u64.wrap (U x * 13787848793156543929) = U (x * 13787848793156543929#64) := mul_U x 13787848793156543929
theorem m2 (x : BitVec 64) : IntKind.u64.wrap (U x * 10723151780598845931) = U (x * 10723151780598845931#64) := mul_U x 10723151780598845931
def mix (x : BitVec 64) : BitVec 64 :=
  let a := (x ^^^ x >>> 30) * 13787848793156543929#64
  let b := (a ^^^ a >>> 27) * 10723151780598845931#64
  b ^^^ b >>> 31
theorem shr_fix {z : BitVec 64} {k : Nat} (hk : 0 < k) (h : z = z >>> k) : z = 0#64 := by
  have e : z.toNat = z.toNat / 2 ^ k := by
    have := congrArg BitVec.toNat h
    rw [BitVec.toNat_ushiftRight, Nat.shiftRight_eq_div_pow] at this
    exact this
  apply BitVec.eq_of_toNat_eq
  rcases Nat.eq_zero_or_pos z.toNat with h0 | h0
  · simpa using h0
  · have := Nat.div_lt_self h0 (Nat.one_lt_two_pow (by omega : k ≠ 0))
    omega
theorem xs_inj {x y : BitVec 64} {k : Nat} (hk : 0 < k) (h : x ^^^ x >>> k = y ^^^ y >>> k) : x = y := by
  have e : x ^^^ y = (x ^^^ y) >>> k := by
    rw [BitVec.ushiftRight_xor_distrib]
    have h2 := congrArg (fun t => t ^^^ y ^^^ x >>> k) h
    have a1 : x ^^^ x >>> k ^^^ y ^^^ x >>> k = x ^^^ y := by
      rw [BitVec.xor_assoc x, BitVec.xor_comm (x >>> k) y, ← BitVec.xor_assoc, BitVec.xor_assoc, BitVec.xor_self, BitVec.xor_zero]
    have a2 : y ^^^ y >>> k ^^^ y ^^^ x >>> k = x >>> k ^^^ y >>> k := by
      rw [BitVec.xor_comm y (y >>> k), BitVec.xor_assoc (y >>> k) y y, BitVec.xor_self, BitVec.xor_zero, BitVec.xor_comm]
    rw [a1, a2] at h2
    exact h2
  have z := shr_fix hk e
  have := congrArg (fun t => t ^^^ y) z
  simpa [BitVec.xor_assoc] using this
theorem mul_inj {x y c d : BitVec 64} (hc : c * d = 1#64) (h : x * c = y * c) : x = y := by
  have := congrArg (fun t => t * d) h
  simpa [BitVec.mul_assoc, hc] using this
theorem mix_inj {x y : BitVec 64} (h : mix x = mix y) : x = y := by
  unfold mix at h
  have h1 := xs_inj (by decide) h
  have h2 := mul_inj (d := 3573116690164977347#64) (by decide +kernel) h1
  have h3 := xs_inj (by decide) h2
  have h4 := mul_inj (d := 10871156337175269513#64) (by decide +kernel) h3
  exact xs_inj (by decide) h4
set_option maxHeartbeats 400000 in
theorem mix_any (x : BitVec 64) (w : World) :
    Calls Try.prog 17 #[.int .u64 (U x)] w fun e w' => e = .returned (.int .u64 (U (mix x))) ∧ w = w' := by
  go_enter Try.func17, Try.ntmps17
  go_wp2_with fail
  go_ret
  exact ⟨by simp only [d30, d27, d31, m1, m2, xor_U]; rfl, rfl⟩
/-- The place of x in the order that s gives. -/
def rk (s x : BitVec 64) : BitVec 64 := mix (x ^^^ s)
theorem rk_inj {s x y : BitVec 64} (h : rk s x = rk s y) : x = y := by
  have := congrArg (fun t => t ^^^ s) (mix_inj h)
  simpa [BitVec.xor_assoc] using this
theorem rank_any (s x : BitVec 64) (w : World) :
    Calls Try.prog 27 #[.int .u64 (U s), .int .u64 (U x)] w fun e w' => e = .returned (.int .u64 (U (rk s x))) ∧ w = w' := by
  go_enter Try.func27, Try.ntmps27
  go_wp2_with fail
  refine (mix_any _ _).mono ?_
  rintro e w' ⟨rfl, rfl⟩
  go_wp2_with fail
  go_ret
  exact ⟨rfl, rfl⟩
theorem nan_any (a : Int) (w : World) : Calls Try.prog 37 #[.int .u64 a] w fun e w' => e = .returned (.bool false) ∧ w = w' := by
  have t : (a != a) = false := by simp
  go_enter Try.func37, Try.ntmps37
  go_wp2_with fail
  go_ret
  exact ⟨rfl, rfl⟩
def cmpI (a b : Int) : Int := if a < b then -1 else if b < a then 1 else 0
theorem cmp_any (a b : Int) (w : World) : Calls Try.prog 26 #[.int .u64 a, .int .u64 b] w fun e w' => e = .returned (.int .i64 (cmpI a b)) ∧ w = w' := by
  unfold cmpI
  by_cases h1 : a < b
  · have t1 : decide (a < b) = true := decide_eq_true h1
    rw [if_pos h1]
    clear h1
    go_enter Try.func26, Try.ntmps26
    go_wp2_with fail
    refine (nan_any _ _).mono ?_
    rintro e w' ⟨rfl, rfl⟩
    go_wp2_with fail
    refine (nan_any _ _).mono ?_
    rintro e w' ⟨rfl, rfl⟩
    go_wp2_with fail
    go_ret
    exact ⟨rfl, rfl⟩
  · have t1 : decide (a < b) = false := decide_eq_false h1
    rw [if_neg h1]
    by_cases h2 : b < a
    · have t2 : decide (b < a) = true := decide_eq_true h2
      rw [if_pos h2]
      clear h1 h2
      go_enter Try.func26, Try.ntmps26
      go_wp2_with fail
      refine (nan_any _ _).mono ?_
      rintro e w' ⟨rfl, rfl⟩
      go_wp2_with fail
      refine (nan_any _ _).mono ?_
      rintro e w' ⟨rfl, rfl⟩
      go_wp2_with fail
      go_ret
      exact ⟨rfl, rfl⟩
    · have t2 : decide (b < a) = false := decide_eq_false h2
      rw [if_neg h2]
      clear h1 h2
      go_enter Try.func26, Try.ntmps26
      go_wp2_with fail
      refine (nan_any _ _).mono ?_
      rintro e w' ⟨rfl, rfl⟩
      go_wp2_with fail
      refine (nan_any _ _).mono ?_
      rintro e w' ⟨rfl, rfl⟩
      go_wp2_with fail
      go_ret
      exact ⟨rfl, rfl⟩
/-- The closure of Join: the order that the captured number gives. -/
theorem clo_any (s x y : BitVec 64) (B : Nat) (w : World) (h : w.cell? ⟨B, 0, none⟩ = some (.int .u64 (U s))) :
    Calls Try.prog 25 #[.int .u64 (U x), .int .u64 (U y), .pointer (some ⟨B, 0, none⟩)] w fun e w' => e = .returned (.int .i64 (cmpI (U (rk s x)) (U (rk s y)))) ∧ ∃ q, w' = w.drewN q := by
  have H1 : Hid (∀ m, Calls Try.prog 27 #[.int .u64 (U s), .int .u64 (U x)] (w.drewN m) fun e w' => e = .returned (.int .u64 (U (rk s x))) ∧ ∃ m', w' = w.drewN m') := fun m => by
    refine (rank_any s x _).mono ?_
    rintro e w' ⟨rfl, rfl⟩
    exact ⟨rfl, m, rfl⟩
  have H2 : Hid (∀ m, Calls Try.prog 27 #[.int .u64 (U s), .int .u64 (U y)] (w.drewN m) fun e w' => e = .returned (.int .u64 (U (rk s y))) ∧ ∃ m', w' = w.drewN m') := fun m => by
    refine (rank_any s y _).mono ?_
    rintro e w' ⟨rfl, rfl⟩
    exact ⟨rfl, m, rfl⟩
  have H3 : Hid (∀ m, Calls Try.prog 26 #[.int .u64 (U (rk s x)), .int .u64 (U (rk s y))] (w.drewN m) fun e w' => e = .returned (.int .i64 (cmpI (U (rk s x)) (U (rk s y)))) ∧ ∃ m', w' = w.drewN m') := fun m => by
    refine (cmp_any _ _ _).mono ?_
    rintro e w' ⟨rfl, rfl⟩
    exact ⟨rfl, m, rfl⟩
  generalize U (rk s x) = a at *
  generalize U (rk s y) = b at *
  generalize cmpI a b = c at *
  generalize U s = us at *
  generalize U x = ux at *
  generalize U y = uy at *
  go_enter Try.func25, Try.ntmps25
  go_wp2_with fail
  go_quiet ((first | (go_at_call 27; first | (with_reducible exact H1.out _) | (with_reducible exact H2.out _)) | (go_at_call 26; with_reducible exact H3.out _)))
  go_wp2_with fail
  go_ret
  exact ⟨rfl, _, rfl⟩
end Go.Proofs.Yticodfdonpookaa
