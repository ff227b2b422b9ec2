/- Walk of mixer.Seed. No condition. -/
import Derived.Test.YthaiopgmncnekaaDoorMixWlk
set_option linter.unusedSimpArgs false
set_option linter.unusedVariables false
set_option maxRecDepth 20000
namespace Go.Proofs.YthaiopgmncnekaaDoor.Mix
open Go.RowKit
theorem add_g (x : BitVec 64) : IntKind.u64.wrap (U x + (11400714819323198485 : Int)) = U (x + 11400714819323198485#64) := add_U x 11400714819323198485
attribute [local go_sem] add_g
def gold : BitVec 64 := 11400714819323198485#64
def seed (n : BitVec 64) : S := ⟨mix (n + 11400714819323198485#64), mix (n + 11400714819323198485#64 + 11400714819323198485#64),
  mix (n + 11400714819323198485#64 + 11400714819323198485#64 + 11400714819323198485#64), mix (n + 11400714819323198485#64 + 11400714819323198485#64 + 11400714819323198485#64 + 11400714819323198485#64)⟩
set_option maxHeartbeats 400000 in
theorem seed_any (n : BitVec 64) (w : World) :
    Calls Tryd.prog 26 #[.int .u64 (U n)] w fun e w' => e = .returned ((seed n).v) ∧ Below w.heap.size w w' := by
  go_enter Tryd.func26, Tryd.ntmps26
  go_wp2_with fail
  refine wp_loop_rounds 5 ?_; rw [rounds_succ]
  go_wp2_with fail
  refine (mix_any _ _).mono ?_
  rintro e w' ⟨rfl, rfl⟩
  go_wp2_with fail
  rw [rounds_succ]
  go_wp2_with fail
  refine (mix_any _ _).mono ?_
  rintro e w' ⟨rfl, rfl⟩
  go_wp2_with fail
  rw [rounds_succ]
  go_wp2_with fail
  refine (mix_any _ _).mono ?_
  rintro e w' ⟨rfl, rfl⟩
  go_wp2_with fail
  rw [rounds_succ]
  go_wp2_with fail
  refine (mix_any _ _).mono ?_
  rintro e w' ⟨rfl, rfl⟩
  go_wp2_with fail
  rw [rounds_succ]
  go_wp2_with fail
  refine bodyPost_ret (v := (seed n).v) (by simp [results, Tryd.results26, go_sem, seed, S.v]) rfl ⟨rfl, ?_⟩
  exact ((((Below.refl _ _).alloc (Nat.le_refl _) _).alloc (by simp) _))
end Go.Proofs.YthaiopgmncnekaaDoor.Mix
