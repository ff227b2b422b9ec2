/- Digits the other way round: plain laws. No condition. -/
import Derived.Test.YtoedkeopepanoaaRows
set_option linter.unusedSimpArgs false
set_option linter.unusedVariables false
namespace Go.Proofs.Ytoedkeopepanoaa
def Valid (base digits : Int) : Prop := 2 ≤ base ∧ base ≤ 36 ∧ 0 ≤ digits ∧ digits ≤ 30 ∧ base.toNat ^ digits.toNat ≤ 1073741824
def ro (b n : Nat) : Nat → Nat
  | 0 => 0
  | i + 1 => ro b n i * b + n / b ^ i % b
theorem div_pow_succ (n b i : Nat) : n / b ^ i / b = n / b ^ (i + 1) := by rw [Nat.div_div_eq_div_mul, Nat.pow_succ]
theorem ro_lt (b n i : Nat) (hb : 0 < b) : ro b n i < b ^ i := by
  induction i with
  | zero => simp [ro]
  | succ i ih =>
    have h := Nat.mod_lt (n / b ^ i) hb
    have h2 : (ro b n i + 1) * b ≤ b ^ i * b := Nat.mul_le_mul_right b ih
    rw [Nat.pow_succ, ro]
    rw [Nat.add_mul, Nat.one_mul] at h2
    omega
theorem ro_div (b n i : Nat) (hb : 0 < b) : ro b n (i + 1) / b = ro b n i := by
  rw [ro, Nat.mul_comm, Nat.mul_add_div hb, Nat.div_eq_of_lt (Nat.mod_lt _ hb), Nat.add_zero]
theorem ro_div_pow (b n f g : Nat) (hb : 0 < b) : ro b n (f + g) / b ^ g = ro b n f := by
  induction g with
  | zero => simp
  | succ g ih =>
    rw [← Nat.add_assoc, Nat.pow_succ, Nat.mul_comm, ← Nat.div_div_eq_div_mul, ro_div b n _ hb, ih]
theorem ro_digit (b n d j : Nat) (hb : 0 < b) (hj : j < d) : ro b n d / b ^ j % b = n / b ^ (d - 1 - j) % b := by
  obtain ⟨e, rfl⟩ : ∃ e, d = e + 1 + j := ⟨d - 1 - j, by omega⟩
  rw [ro_div_pow b n (e + 1) j hb, ro, show e + 1 + j - 1 - j = e by omega, Nat.mul_comm, Nat.mul_add_mod, Nat.mod_mod]
theorem digits_ext (b : Nat) (hb : 0 < b) : ∀ d x y : Nat, x < b ^ d → y < b ^ d → (∀ j, j < d → x / b ^ j % b = y / b ^ j % b) → x = y := by
  intro d
  induction d with
  | zero => intro x y hx hy _; simp at hx hy; omega
  | succ d ih =>
    intro x y hx hy h
    have h0 := h 0 (by omega)
    simp at h0
    have h1 := ih (x / b) (y / b) (by rw [Nat.div_lt_iff_lt_mul hb, ← Nat.pow_succ]; exact hx) (by rw [Nat.div_lt_iff_lt_mul hb, ← Nat.pow_succ]; exact hy) (fun j hj => by
      have := h (j + 1) (by omega)
      rw [Nat.pow_succ, Nat.mul_comm (b ^ j), ← Nat.div_div_eq_div_mul, ← Nat.div_div_eq_div_mul] at this
      exact this)
    rw [← Nat.div_add_mod x b, ← Nat.div_add_mod y b, h0, h1]
theorem ro_ro (b n d : Nat) (hb : 0 < b) (hn : n < b ^ d) : ro b (ro b n d) d = n := by
  apply digits_ext b hb d _ _ (ro_lt b _ d hb) hn
  intro j hj
  rw [ro_digit b _ d j hb hj, ro_digit b n d _ hb (by omega), show d - 1 - (d - 1 - j) = j by omega]
theorem ro_inj (b n m d : Nat) (hb : 0 < b) (hn : n < b ^ d) (hm : m < b ^ d) (h : ro b n d = ro b m d) : n = m := by
  rw [← ro_ro b n d hb hn, h, ro_ro b m d hb hm]
theorem mod_digit (b n d j : Nat) (hj : j < d) : n % b ^ d / b ^ j % b = n / b ^ j % b := by
  obtain ⟨e, rfl⟩ : ∃ e, d = j + 1 + e := ⟨d - j - 1, by omega⟩
  rw [Nat.pow_add, Nat.pow_succ, Nat.mul_assoc, Nat.mod_mul_right_div_self, Nat.mod_mul_right_mod]
theorem ro_mod (b n d : Nat) : ∀ i, i ≤ d → ro b (n % b ^ d) i = ro b n i := by
  intro i
  induction i with
  | zero => intro _; rfl
  | succ i ih => intro h; rw [ro, ro, ih (by omega), mod_digit b n d i (by omega)]
/-- The first digits of a turned number: those of its lowest ones, turned. -/
theorem ro_first (b N f d : Nat) (hb : 0 < b) (hf : f ≤ d) : ro b (N % b ^ d) d / b ^ (d - f) = ro b (N % b ^ f) f := by
  rw [ro_mod b N d d (Nat.le_refl _), ro_mod b N f f (Nat.le_refl _)]
  have := ro_div_pow b N f (d - f) hb
  rwa [show f + (d - f) = d by omega] at this
end Go.Proofs.Ytoedkeopepanoaa
