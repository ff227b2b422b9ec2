/- PermEach: the plain law. No condition. -/
import Derived.Test.YtdneljpimocgfaaAl
set_option linter.unusedSimpArgs false
set_option linter.unusedVariables false
namespace Go.Proofs.Ytdneljpimocgfaa.permEach
open Go.RowKit Go.Proofs.Ytdneljpimocgfaa
def fct : Nat → Nat
  | 0 => 1
  | n + 1 => fct n * (n + 1)
def xq (n x : Nat) : Nat → Nat
  | 0 => x
  | m + 1 => xq n x m / (n - m)
def dg (n x k : Nat) : Nat := xq n x (n - 1 - k) % (k + 1)
def pm (n x : Nat) : List Int := tabI n (dl (dg n x) (fun i => i) n)
def R (n x : Nat) : Nat := rkP (pm n x)
def chk (n : Nat) : Nat → Nat → Nat → Bool
  | 0, _, _ => true
  | f + 1, x, mask => decide (OkP (pm n x)) && decide (R n x < fct n) && !(mask.testBit (R n x)) && chk n f (x + 1) (mask ||| (1 <<< R n x))
theorem chk_ok (n : Nat) : ∀ (f x mask : Nat), chk n f x mask = true → (∀ y, x ≤ y → y < x + f → OkP (pm n y) ∧ R n y < fct n ∧ mask.testBit (R n y) = false ∧ ∀ z, x ≤ z → z < y → R n z ≠ R n y)
  | 0, x, mask, _, y, h1, h2 => by omega
  | f + 1, x, mask, h, y, h1, h2 => by
    rw [chk] at h
    simp only [Bool.and_eq_true, decide_eq_true_eq, Bool.not_eq_true'] at h
    obtain ⟨⟨⟨a1, a2⟩, a3⟩, a4⟩ := h
    by_cases e : y = x
    · subst e
      exact ⟨a1, a2, a3, fun z hz1 hz2 => by omega⟩
    · obtain ⟨b1, b2, b3, b4⟩ := chk_ok n f (x + 1) _ a4 y (by omega) (by omega)
      rw [Nat.testBit_or, Bool.or_eq_false_iff] at b3
      refine ⟨b1, b2, b3.1, fun z hz1 hz2 => ?_⟩
      by_cases e2 : z = x
      · subst e2
        intro e3
        have := b3.2
        rw [← e3, Nat.testBit_shiftLeft] at this
        simp at this
      · exact b4 z (by omega) hz2
theorem all_ok {n : Nat} (hn : n ≤ 6) : chk n (fct n) 0 0 = true := by
  have : ((List.range 7).all fun n => chk n (fct n) 0 0) = true := by decide +kernel
  exact List.all_eq_true.1 this n (List.mem_range.2 (by omega))
theorem R_ok {n x : Nat} (hn : n ≤ 6) (hx : x < fct n) : OkP (pm n x) ∧ R n x < fct n ∧ ∀ z, z < x → R n z ≠ R n x := by
  obtain ⟨h1, h2, _, h4⟩ := chk_ok n (fct n) 0 0 (all_ok hn) x (Nat.zero_le _) (by omega)
  exact ⟨h1, h2, fun z hz => h4 z (Nat.zero_le _) hz⟩
theorem fct_le {n : Nat} (hn : n ≤ 6) : fct n ≤ 720 := by
  have : ((List.range 7).all fun n => decide (fct n ≤ 720)) = true := by decide +kernel
  exact of_decide_eq_true (List.all_eq_true.1 this n (List.mem_range.2 (by omega)))
theorem xq_le (n x : Nat) : ∀ m, xq n x m ≤ x
  | 0 => Nat.le_refl _
  | m + 1 => Nat.le_trans (Nat.div_le_self _ _) (xq_le n x m)
end Go.Proofs.Ytdneljpimocgfaa.permEach
