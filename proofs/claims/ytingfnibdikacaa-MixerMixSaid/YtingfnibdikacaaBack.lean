/- Walk of mixer.Back. No condition. -/
import Derived.Test.YtingfnibdikacaaWlk
import Derived.Test.YtingfnibdikacaaGen
import Derived.Handy
set_option linter.unusedSimpArgs false
set_option linter.unusedVariables false
namespace Go.Proofs.Ytingfnibdikacaa
open Go.RowKit
theorem divp_U (x : BitVec 64) (k : Nat) : U x / (2 : Int) ^ k = U (x >>> k) := by
  have := div_U x k; rw [← this]; congr 1
theorem shlp_U (x : BitVec 64) (k : Nat) : IntKind.u64.wrap (U x * (2 : Int) ^ k) = U (x <<< k) := by
  have := s_of x k; rw [← this]; congr 2
theorem and1_U (x : BitVec 64) : bits .and .u64 (U x) 1 = U (x &&& 1#64) := and_U x 1#64
def bitAt (c b : BitVec 64) (k : Nat) : BitVec 64 := if 17 ≤ k then (c >>> k &&& 1#64) ^^^ (b >>> (k - 17) &&& 1#64) else c >>> k &&& 1#64
def unsh (c : BitVec 64) : Nat → BitVec 64
  | 0 => 0#64
  | k + 1 => unsh c k ||| (bitAt c (unsh c k) k <<< k)
attribute [local go_sem] xor_U and_U or_U divp_U shlp_U and1_U s17
def back (s : S) : S :=
  let d := rot s.d 19
  let a := s.a ^^^ d
  let b := unsh (s.b ^^^ s.c) 64
  ⟨a, b, (s.c ^^^ b <<< 17) ^^^ a, d ^^^ b⟩
theorem unsh_hi (c : BitVec 64) (k : Nat) (h : 17 ≤ k) : unsh c (k + 1) = unsh c k ||| ((c >>> k &&& 1#64) ^^^ (unsh c k >>> (k - 17) &&& 1#64)) <<< k := by
  simp [unsh, bitAt, h]
theorem unsh_lo (c : BitVec 64) (k : Nat) (h : ¬ 17 ≤ k) : unsh c (k + 1) = unsh c k ||| (c >>> k &&& 1#64) <<< k := by
  simp [unsh, bitAt, h]
set_option maxHeartbeats 400000 in
theorem back_any (a b c d : BitVec 64) (w : World) :
    Calls Try.prog 11 #[.agg #[.int .u64 (U a), .int .u64 (U b), .int .u64 (U c), .int .u64 (U d)]] w fun e w' => e = .returned (back ⟨a, b, c, d⟩).v ∧ Below w.heap.size w w' := by
  go_enter Try.func11, Try.ntmps11
  go_wp2_with fail
  refine (rotm45 _ _).mono ?_
  rintro e w' ⟨rfl, rfl⟩
  go_wp2_with fail
  go_loop [4, 22] (fun b' i => ∃ k : Nat, k ≤ 64 ∧ i = .int .i64 k ∧ b' = .int .u64 (U (unsh (b ^^^ c) k))) (fun _ i => 64 - (intOf i).toNat)
  case atStart => exact ⟨0, by omega, rfl, rfl⟩
  case round =>
    obtain ⟨k, hk, rfl, rfl⟩ := hrel
    by_cases hlt : k < 64
    · by_cases h17 : 17 ≤ k
      · have HU := Lib.hid (unsh_hi (b ^^^ c) k h17)
        go_wp2_with fail
        go_round
        case rel => exact ⟨k + 1, by omega, by go_num, by rw [HU.out]⟩
        case measure => simp [intOf]; omega
      · have HU := Lib.hid (unsh_lo (b ^^^ c) k h17)
        go_wp2_with fail
        go_round
        case rel => exact ⟨k + 1, by omega, by go_num, by rw [HU.out]⟩
        case measure => simp [intOf]; omega
    · obtain rfl : k = 64 := by omega
      generalize hu : unsh (b ^^^ c) 64 = u
      have HU := Lib.hid hu; clear hu
      go_wp2_with fail
      refine bodyPost_ret (v := (back ⟨a, b, c, d⟩).v) (by simp [results, Try.results11, go_sem, back, S.v, HU.out]) rfl ⟨rfl, ?_⟩
      exact ((Below.refl _ _).alloc (Nat.le_refl _) _).alloc (by simp) _
end Go.Proofs.Ytingfnibdikacaa
