/- Walks of bottom.Mix, bits.RotateLeft64 and mixer.Step over words as BitVec. No condition. -/
import Derived.Test.YthaiopgmncnekaaDoorMixBits
import Derived.RegionTactic
import Derived.ChangeAlike
set_option linter.unusedSimpArgs false
set_option linter.unusedVariables false
set_option maxRecDepth 20000
namespace Go.Proofs.YthaiopgmncnekaaDoor.Mix
open Go.RowKit
attribute [local go_sem] xor_U and_U or_U
theorem d30 (x : BitVec 64) : U x / (1073741824 : Int) = U (x >>> 30) := div_U x 30
theorem d27 (x : BitVec 64) : U x / (134217728 : Int) = U (x >>> 27) := div_U x 27
theorem d31 (x : BitVec 64) : U x / (2147483648 : Int) = U (x >>> 31) := div_U x 31
theorem d57 (x : BitVec 64) : U x / (144115188075855872 : Int) = U (x >>> 57) := div_U x 57
theorem d19 (x : BitVec 64) : U x / (524288 : Int) = U (x >>> 19) := div_U x 19
theorem d45 (x : BitVec 64) : U x / (35184372088832 : Int) = U (x >>> 45) := div_U x 45
theorem m1 (x : BitVec 64) : IntKind.u64.wrap (U x * 13787848793156543929) = U (x * 13787848793156543929#64) := mul_U x 13787848793156543929
theorem m2 (x : BitVec 64) : IntKind.u64.wrap (U x * 10723151780598845931) = U (x * 10723151780598845931#64) := mul_U x 10723151780598845931
theorem m5 (x : BitVec 64) : IntKind.u64.wrap (U x * 5) = U (x * 5#64) := mul_U x 5
theorem m9 (x : BitVec 64) : IntKind.u64.wrap (U x * 9) = U (x * 9#64) := mul_U x 9
theorem s_of (x : BitVec 64) (k : Nat) : IntKind.u64.wrap (U x * ((2 ^ k : Nat) : Int)) = U (x <<< k) := by
  rw [mul_U]; congr 1; rw [BitVec.shiftLeft_eq_mul_twoPow]; congr 1
  apply BitVec.eq_of_toNat_eq; rw [BitVec.toNat_ofNat, BitVec.toNat_twoPow]
theorem s7 (x : BitVec 64) : IntKind.u64.wrap (U x * 128) = U (x <<< 7) := s_of x 7
theorem s17 (x : BitVec 64) : IntKind.u64.wrap (U x * 131072) = U (x <<< 17) := s_of x 17
theorem s45 (x : BitVec 64) : IntKind.u64.wrap (U x * 35184372088832) = U (x <<< 45) := s_of x 45
theorem s19 (x : BitVec 64) : IntKind.u64.wrap (U x * 524288) = U (x <<< 19) := s_of x 19
attribute [local go_sem] d30 d27 d31 d57 d19 d45 m1 m2 m5 m9 s7 s17 s45 s19
theorem b7 : bits .and .u64 7 63 = 7 := by decide
theorem b45 : bits .and .u64 45 63 = 45 := by decide
theorem bm45 : bits .and .u64 (IntKind.u64.wrap (-45)) 63 = 19 := by decide
attribute [local go_sem] b7 b45 bm45

def mix (x : BitVec 64) : BitVec 64 :=
  let a := (x ^^^ x >>> 30) * 13787848793156543929#64
  let b := (a ^^^ a >>> 27) * 10723151780598845931#64
  b ^^^ b >>> 31
def rot (x : BitVec 64) (k : Nat) : BitVec 64 := x <<< k ||| x >>> (64 - k)

theorem ret_U {a b : BitVec 64} (h : a = b) : Ending.returned (.int .u64 (U a)) = .returned (.int .u64 (U b)) := by rw [h]

set_option maxHeartbeats 400000 in
theorem mix_any (x : BitVec 64) (w : World) :
    Calls Tryd.prog 46 #[.int .u64 (U x)] w fun e w' => e = .returned (.int .u64 (U (mix x))) ∧ w = w' := by
  go_enter Tryd.func46, Tryd.ntmps46
  go_wp2_with fail
  go_ret
  exact ⟨by simp only [d30, d27, d31, m1, m2, xor_U, or_U, s7, s45, s19, d57, d19, d45]; rfl, rfl⟩
set_option maxHeartbeats 400000 in
theorem rot7 (x : BitVec 64) (w : World) :
    Calls Tryd.prog 62 #[.int .u64 (U x), .int .i64 7] w fun e w' => e = .returned (.int .u64 (U (rot x 7))) ∧ w = w' := by
  go_enter Tryd.func62, Tryd.ntmps62
  go_wp2_with fail
  go_ret
  exact ⟨by simp only [d30, d27, d31, m1, m2, xor_U, or_U, s7, s45, s19, d57, d19, d45]; rfl, rfl⟩
set_option maxHeartbeats 400000 in
theorem rot45 (x : BitVec 64) (w : World) :
    Calls Tryd.prog 62 #[.int .u64 (U x), .int .i64 45] w fun e w' => e = .returned (.int .u64 (U (rot x 45))) ∧ w = w' := by
  go_enter Tryd.func62, Tryd.ntmps62
  go_wp2_with fail
  go_ret
  exact ⟨by simp only [d30, d27, d31, m1, m2, xor_U, or_U, s7, s45, s19, d57, d19, d45]; rfl, rfl⟩
set_option maxHeartbeats 400000 in
theorem rotm45 (x : BitVec 64) (w : World) :
    Calls Tryd.prog 62 #[.int .u64 (U x), .int .i64 (-45)] w fun e w' => e = .returned (.int .u64 (U (rot x 19))) ∧ w = w' := by
  go_enter Tryd.func62, Tryd.ntmps62
  go_wp2_with fail
  go_ret
  exact ⟨by simp only [d30, d27, d31, m1, m2, xor_U, or_U, s7, s45, s19, d57, d19, d45]; rfl, rfl⟩

structure S where
  a : BitVec 64
  b : BitVec 64
  c : BitVec 64
  d : BitVec 64
def S.v (s : S) : Value := .agg #[.int .u64 (U s.a), .int .u64 (U s.b), .int .u64 (U s.c), .int .u64 (U s.d)]
def out (s : S) : BitVec 64 := rot (s.b * 5#64) 7 * 9#64
def step (s : S) : S :=
  let c := s.c ^^^ s.a
  let d := s.d ^^^ s.b
  let b := s.b ^^^ c
  let a := s.a ^^^ d
  ⟨a, b, c ^^^ (s.b <<< 17), rot d 45⟩
set_option maxHeartbeats 400000 in
theorem step_any (a b c d : BitVec 64) (w : World) :
    Calls Tryd.prog 52 #[.agg #[.int .u64 (U a), .int .u64 (U b), .int .u64 (U c), .int .u64 (U d)]] w fun e w' => e = .returned (.tuple #[.int .u64 (U (out ⟨a, b, c, d⟩)), (step ⟨a, b, c, d⟩).v]) ∧ Below w.heap.size w w' := by
  go_enter Tryd.func52, Tryd.ntmps52
  go_wp2_with fail
  refine (rot7 _ _).mono ?_
  rintro e w' ⟨rfl, rfl⟩
  go_wp2_with fail
  refine (rot45 _ _).mono ?_
  rintro e w' ⟨rfl, rfl⟩
  go_wp2_with fail
  go_region
  go_wp2_with fail
  refine bodyPost_ret (v := .tuple #[.int .u64 (U (out ⟨a, b, c, d⟩)), (step ⟨a, b, c, d⟩).v]) (by simp [results, Tryd.results52, go_sem, out, step, S.v]) rfl ⟨rfl, ?_⟩
  exact ((((Below.refl _ _).alloc (Nat.le_refl _) _).alloc (by simp) _)).drew
end Go.Proofs.YthaiopgmncnekaaDoor.Mix
