/- The walk of MixerSeed: true for all seeds. No condition. -/
import Derived.Test.YtingfnibdikacaaMixLaw
import Derived.Test.YtingfnibdikacaaAlive
set_option linter.unusedSimpArgs false
set_option linter.unusedVariables false
namespace Go.Proofs.Ytingfnibdikacaa.mixerSeed
open Go.RowKit
def SeedIs (x : BitVec 64) (a b c d : Int) : Prop := ∀ w, Calls Try.prog 9 #[.int .u64 (U x)] w fun e w' => e = .returned (.agg #[.int .u64 a, .int .u64 b, .int .u64 c, .int .u64 d]) ∧ Below w.heap.size w w'
theorem two (x y : BitVec 64) (h : x ≠ y) : ∃ a b c d a' b' c' d', SeedIs x a b c d ∧ SeedIs y a' b' c' d' ∧ (a == a') = false ∧ (a == 0 && b == 0) = false :=
  ⟨_, _, _, _, _, _, _, _, seed_any x, seed_any y, seed_ne h, seed_nz x⟩
theorem one (x : BitVec 64) : ∃ a b c d, SeedIs x a b c d ∧ (a == 0 && b == 0) = false := ⟨_, _, _, _, seed_any x, seed_nz x⟩
attribute [local go_sem] eq4
set_option maxHeartbeats 400000 in
theorem walk (a0 : Int) (a1 : Int) (w : World) (w0 : (Lit.int .u64 a0).wf = true) (w1 : (Lit.int .u64 a1).wf = true) :
    Calls Try.prog 4 #[.int .u64 a0, .int .u64 a1] w fun e w' => e = .returned (.bool true) ∧ Below w.heap.size w w' := by
  obtain ⟨x, rfl⟩ := U_of w0
  obtain ⟨y, rfl⟩ := U_of w1
  clear w0 w1
  by_cases hxy : x = y
  · subst hxy
    obtain ⟨a, b, c, d, H1, hz⟩ := one x
    go_enter Try.func4, Try.ntmps4
    go_wp2_with fail
    refine (alive_any _).mono ?_
    rintro e w1 ⟨rfl, hb1⟩
    go_wp2_with fail
    refine (H1 _).mono ?_
    rintro e w2 ⟨rfl, hb2⟩
    go_wp2_with fail
    refine (H1 _).mono ?_
    rintro e w3 ⟨rfl, hb3⟩
    go_wp2_with fail
    refine (H1 _).mono ?_
    rintro e w4 ⟨rfl, hb4⟩
    go_wp2_with fail
    go_ret
    exact ⟨rfl, ((hb1.trans (hb2.mono hb1.size)).trans (hb3.mono (Nat.le_trans hb1.size hb2.size))).trans (hb4.mono (Nat.le_trans (Nat.le_trans hb1.size hb2.size) hb3.size))⟩
  · obtain ⟨a, b, c, d, a', b', c', d', H1, H2, hn, hz⟩ := two x y hxy
    have hm : (U x == U y) = false := by rw [beq_eq_false_iff_ne]; exact fun e => hxy (U_inj.1 e)
    clear hxy
    go_enter Try.func4, Try.ntmps4
    go_wp2_with fail
    refine (alive_any _).mono ?_
    rintro e w1 ⟨rfl, hb1⟩
    go_wp2_with fail
    refine (H1 _).mono ?_
    rintro e w2 ⟨rfl, hb2⟩
    go_wp2_with fail
    refine (H2 _).mono ?_
    rintro e w3 ⟨rfl, hb3⟩
    go_wp2_with fail
    refine (H1 _).mono ?_
    rintro e w4 ⟨rfl, hb4⟩
    go_wp2_with fail
    go_ret
    exact ⟨rfl, ((hb1.trans (hb2.mono hb1.size)).trans (hb3.mono (Nat.le_trans hb1.size hb2.size))).trans (hb4.mono (Nat.le_trans (Nat.le_trans hb1.size hb2.size) hb3.size))⟩
end Go.Proofs.Ytingfnibdikacaa.mixerSeed
