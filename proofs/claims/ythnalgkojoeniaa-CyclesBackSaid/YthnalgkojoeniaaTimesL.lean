/- The least number that all rounds' lengths divide. No condition. -/
import Derived.Test.YthnalgkojoeniaaCycL
set_option linter.unusedSimpArgs false
set_option linter.unusedVariables false
namespace Go.Proofs.Ythnalgkojoeniaa
/-- The least number that all lengths divide. -/
def lcmL (l : List Nat) (a : Nat) : Nat := l.foldl Nat.lcm a
theorem lcmL_dvd : ∀ (l : List Nat) (a d : Nat), lcmL l a ∣ d ↔ a ∣ d ∧ ∀ x ∈ l, x ∣ d
  | [], a, d => by simp [lcmL]
  | x :: l, a, d => by
    show lcmL l (Nat.lcm a x) ∣ d ↔ _
    rw [lcmL_dvd l]
    constructor
    · rintro ⟨h1, h2⟩
      exact ⟨Nat.dvd_trans (Nat.dvd_lcm_left a x) h1, fun y hy => by
        rcases List.mem_cons.1 hy with rfl | hy
        · exact Nat.dvd_trans (Nat.dvd_lcm_right a y) h1
        · exact h2 y hy⟩
    · rintro ⟨h1, h2⟩
      exact ⟨Nat.lcm_dvd h1 (h2 x List.mem_cons_self), fun y hy => h2 y (List.mem_cons_of_mem _ hy)⟩
theorem lcmL_pos : ∀ (l : List Nat) (a : Nat), 0 < a → (∀ x ∈ l, 0 < x) → 0 < lcmL l a
  | [], a, h, _ => h
  | x :: l, a, h, hl => lcmL_pos l _ (Nat.lcm_pos h (hl x List.mem_cons_self)) fun y hy => hl y (List.mem_cons_of_mem _ hy)
theorem le_two_pow : ∀ x : Nat, x ≤ 2 ^ x
  | 0 => by decide
  | x + 1 => by have := le_two_pow x; rw [Nat.pow_succ]; have : 1 ≤ 2 ^ x := Nat.one_le_two_pow; omega
theorem lcmL_le : ∀ (l : List Nat) (a s : Nat), a ≤ 2 ^ s → 0 < a → (∀ x ∈ l, 0 < x) → lcmL l a ≤ 2 ^ (s + l.sum)
  | [], a, s, h, _, _ => by simpa [lcmL] using h
  | x :: l, a, s, h, ha, hl => by
    have hx := hl x List.mem_cons_self
    have := lcmL_le l (Nat.lcm a x) (s + x) (by
      rw [Nat.pow_add]
      exact Nat.le_trans (Nat.le_of_dvd (Nat.mul_pos ha hx) (Nat.lcm_dvd (Nat.dvd_mul_right a x) (Nat.dvd_mul_left x a))) (Nat.mul_le_mul h (le_two_pow x))) (Nat.lcm_pos ha hx) fun y hy => hl y (List.mem_cons_of_mem _ hy)
    rwa [Nat.add_assoc] at this
/-- The round's step: n / gcd * length. -/
theorem lcm_step (a x : Nat) : a / Nat.gcd a x * x = Nat.lcm a x := by
  have h := Nat.gcd_dvd_left a x
  rw [Nat.lcm, Nat.div_mul_right_comm h]
def lens (f : Nat → Nat) (n k : Nat) : List Nat := (cyc f n k).map List.length
def tms (f : Nat → Nat) (n : Nat) : Nat := lcmL (lens f n n) 1
theorem Pm.lens_mem {f : Nat → Nat} {n : Nat} (h : Pm f n) {x : Nat} (hx : x ∈ lens f n n) : 1 ≤ x ∧ x ≤ n ∧ ∃ y, y < n ∧ x = Ythnalgkojoeniaa.per f n y := by
  obtain ⟨r, hr, rfl⟩ := List.mem_map.1 hx
  obtain ⟨y, h1, h2, rfl⟩ := cyc_mem hr
  rw [orb_len]
  exact ⟨(h.per h1).2.1, (h.per h1).2.2.1, y, h1, rfl⟩
theorem Pm.tms_dvd {f : Nat → Nat} {n : Nat} (h : Pm f n) (d : Nat) : tms f n ∣ d ↔ ∀ x, x < n → it f d x = x := by
  unfold tms
  rw [lcmL_dvd]
  constructor
  · rintro ⟨-, h1⟩ x hx
    obtain ⟨r, hr, hxr⟩ := h.mem_cyc hx
    obtain ⟨y, h2, h3, rfl⟩ := cyc_mem hr
    rw [h.per_dvd hx, h.per_eq h2 hxr]
    exact h1 _ (List.mem_map.2 ⟨_, hr, orb_len _ _ _⟩)
  · intro h1
    refine ⟨Nat.one_dvd d, fun x hx => ?_⟩
    obtain ⟨-, -, y, h2, rfl⟩ := h.lens_mem hx
    exact (h.per_dvd h2 d).1 (h1 y h2)
theorem it_undo {f g : Nat → Nat} {n : Nat} (h : Pm f n) (hg : ∀ x, x < n → g (f x) = x) : ∀ d x, x < n → it g d (it f d x) = x
  | 0, _, _ => rfl
  | d + 1, x, hx => by rw [it_succ f d x]; show it g d (g (f (it f d x))) = x; rw [hg _ (h.lt d x hx)]; exact it_undo h hg d x hx
theorem tms_back {f g : Nat → Nat} {n : Nat} (h : Pm f n) (hg : Pm g n) (e : ∀ x, x < n → g (f x) = x) : tms g n = tms f n := by
  have e2 : ∀ x, x < n → f (g x) = x := fun x hx => hg.2 _ _ (h.1 _ (hg.1 x hx)) hx (e _ (hg.1 x hx))
  refine Nat.dvd_antisymm ((hg.tms_dvd _).2 fun x hx => ?_) ((h.tms_dvd _).2 fun x hx => ?_)
  · have := it_undo h e (tms f n) x hx
    rwa [(h.tms_dvd _).1 (Nat.dvd_refl _) x hx] at this
  · have := it_undo hg e2 (tms g n) x hx
    rwa [(hg.tms_dvd _).1 (Nat.dvd_refl _) x hx] at this
theorem Pm.sum_lens {f : Nat → Nat} {n : Nat} (h : Pm f n) : ∀ k, k ≤ n → (lens f n k).sum ≤ n := by
  intro k hk
  unfold lens
  rw [← List.length_flatten]
  obtain ⟨h1, h2⟩ := h.flat_nodup k hk
  have := h1.length_le_of_subset (l₂ := List.range n) (fun y hy => by
    obtain ⟨x, h3, h4⟩ := (h2 y).1 hy
    exact List.mem_range.2 (h.orb_lt (by omega) h4))
  simpa using this
theorem Pm.tms_bd {f : Nat → Nat} {n : Nat} (h : Pm f n) (hn : n ≤ 20) : 1 ≤ tms f n ∧ tms f n ≤ 1048576 := by
  refine ⟨lcmL_pos _ 1 (by decide) fun x hx => (h.lens_mem hx).1, ?_⟩
  refine Nat.le_trans (lcmL_le (lens f n n) 1 0 (by decide) (by decide) fun x hx => (h.lens_mem hx).1) ?_
  rw [Nat.zero_add]
  exact Nat.pow_le_pow_right (by decide) (Nat.le_trans (h.sum_lens n (Nat.le_refl _)) hn)
/-- Less often is not enough. -/
theorem Pm.tms_least {f : Nat → Nat} {n d : Nat} (h : Pm f n) (h1 : 1 ≤ d) (h2 : d < tms f n) : ∃ x ∈ lens f n n, ¬ x ∣ d := by
  by_cases hc : ∃ x ∈ lens f n n, ¬ x ∣ d
  · exact hc
  · have := Nat.le_of_dvd (by omega) ((lcmL_dvd (lens f n n) 1 d).2 ⟨Nat.one_dvd d, fun x hx => by
      by_cases e : x ∣ d
      · exact e
      · exact absurd ⟨x, hx, e⟩ hc⟩)
    unfold tms at h2
    omega
theorem Pm.tms_row {f : Nat → Nat} {n : Nat} {x : Nat} (hx : x ∈ lens f n n) : x ∣ tms f n :=
  ((lcmL_dvd (lens f n n) 1 _).1 (Nat.dvd_refl _)).2 x hx
end Go.Proofs.Ythnalgkojoeniaa
