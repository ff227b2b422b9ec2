/- Choices of some of n: right ones, their numbers, no two of which are one. No condition. -/
import Derived.Test.YtmiejokgjbnciaaPas
import Derived.Test.YtmiejokgjbnciaaTab
set_option linter.unusedSimpArgs false
set_option linter.unusedVariables false
namespace Go.Proofs.Ytmiejokgjbnciaa
open Go.RowKit
/-- A choice, given by its places: rising, from 0 up to n. -/
def Rising (n : Int) (f : Nat → Int) (k : Nat) : Prop := ∀ i, i < k → 0 ≤ f i ∧ f i < n ∧ (0 < i → f (i - 1) < f i)
def RightP (n : Int) (zs : List Int) : Prop := 0 ≤ n ∧ n ≤ 60 ∧ Rising n (fun i => zs.getD i 0) zs.length
/-- The number of a choice: of its first k places. -/
def rkf (f : Nat → Int) : Nat → Nat
  | 0 => 0
  | k + 1 => rkf f k + pas (f k).toNat (k + 1)
def rk (zs : List Int) : Nat := rkf (fun i => zs.getD i 0) zs.length
theorem rkf_lt {n : Int} {f : Nat → Int} {K : Nat} (h : Rising n f K) : ∀ k, k ≤ K → ∀ m : Nat, (0 < k → f (k - 1) < m) → rkf f k < pas m k := by
  intro k
  induction k with
  | zero => intro _ m _; rw [pas_zero]; simp [rkf]
  | succ k ih =>
    intro hk m hm
    obtain ⟨h0, h1, h2⟩ := h k (by omega)
    have h3 := ih (by omega) (f k).toNat (fun hp => by have := h2 hp; omega)
    have h4 := hm (by omega)
    rw [Nat.add_sub_cancel] at h4
    have h5 := pas_mono ((f k).toNat + 1) m (k + 1) (by omega)
    rw [pas_succ] at h5
    rw [rkf]; omega
theorem rk_lt {n : Nat} {zs : List Int} (h : RightP n zs) : rk zs < pas n zs.length :=
  rkf_lt h.2.2 _ (Nat.le_refl _) n (fun hp => (h.2.2 _ (by omega)).2.1)
theorem rkf_mono (f : Nat → Int) (k d : Nat) : rkf f k ≤ rkf f (k + d) := by
  induction d with
  | zero => exact Nat.le_refl _
  | succ d ih => have : rkf f (k + (d + 1)) = rkf f (k + d) + pas (f (k + d)).toNat (k + d + 1) := rfl
                 omega
theorem rkf_bd {n : Nat} {zs : List Int} (h : RightP n zs) (k : Nat) (hk : k ≤ zs.length) : rkf (fun i => zs.getD i 0) k ≤ 1152921504606846976 := by
  have h1 := rk_lt h
  have h2 := pas_bd n zs.length (by have := h.2.1; omega)
  have h3 := rkf_mono (fun i => zs.getD i 0) k (zs.length - k)
  rw [show k + (zs.length - k) = zs.length by omega] at h3
  unfold rk at h1; omega
/-- Two choices of as many with one number are one. -/
theorem rkf_inj {n m : Int} {f g : Nat → Int} {K : Nat} (hf : Rising n f K) (hg : Rising m g K) : ∀ k, k ≤ K → rkf f k = rkf g k → ∀ i, i < k → f i = g i := by
  intro k
  induction k with
  | zero => intro _ _ i hi; omega
  | succ k ih =>
    intro hk he i hi
    obtain ⟨a0, a1, a2⟩ := hf k (by omega)
    obtain ⟨b0, b1, b2⟩ := hg k (by omega)
    have e : f k = g k := by
      have fa := rkf_lt hf k (by omega) (f k).toNat (fun hp => by have := a2 hp; omega)
      have ga := rkf_lt hg k (by omega) (g k).toNat (fun hp => by have := b2 hp; omega)
      rw [rkf, rkf] at he
      rcases Int.lt_trichotomy (f k) (g k) with h | h | h
      · have := pas_mono ((f k).toNat + 1) (g k).toNat (k + 1) (by omega)
        rw [pas_succ] at this; omega
      · exact h
      · have := pas_mono ((g k).toNat + 1) (f k).toNat (k + 1) (by omega)
        rw [pas_succ] at this; omega
    rcases Nat.lt_or_ge i k with h | h
    · exact ih (by omega) (by rw [rkf, rkf, e] at he; omega) i h
    · obtain rfl : i = k := by omega
      exact e
theorem rk_inj {n m : Int} {zs ys : List Int} (h : RightP n zs) (h' : RightP m ys) (hl : zs.length = ys.length) (he : rk zs = rk ys) : zs = ys := by
  unfold rk at he
  rw [← hl] at he
  have h'' := h'.2.2
  rw [← hl] at h''
  exact list_ext rfl hl.symm fun i hi => rkf_inj h.2.2 h'' _ (Nat.le_refl _) he i hi
theorem rising_gap {n : Int} {f : Nat → Int} {K : Nat} (h : Rising n f K) : ∀ d i, i + d < K → f i + d ≤ f (i + d) := by
  intro d
  induction d with
  | zero => intro i _; simp
  | succ d ih =>
    intro i hi
    have h1 := ih i (by omega)
    have h2 := (h (i + (d + 1)) hi).2.2 (by omega)
    rw [show i + (d + 1) - 1 = i + d by omega] at h2
    omega
theorem rising_len {n : Int} {f : Nat → Int} {K : Nat} (h : Rising n f K) (hn : 0 ≤ n) : (K : Int) ≤ n := by
  rcases Nat.eq_zero_or_pos K with h0 | h0
  · omega
  · have h1 := rising_gap h (K - 1) 0 (by omega)
    have h2 := (h 0 h0).1
    have h3 := (h (0 + (K - 1)) (by omega)).2.1
    omega
/-- What is behind place i of the choice, up to k places. -/
def seg (f : Nat → Int) (i : Nat) : Nat → Nat
  | 0 => 0
  | d + 1 => pas (f i).toNat (i + 1) + seg f (i + 1) d
theorem seg_rkf (f : Nat → Int) : ∀ d i, rkf f i + seg f i d = rkf f (i + d) := by
  intro d
  induction d with
  | zero => intro i; rfl
  | succ d ih =>
    intro i
    rw [seg, show i + (d + 1) = (i + 1) + d by omega, ← ih (i + 1), rkf]
    omega
theorem seg_congr {f g : Nat → Int} : ∀ d i, (∀ j, i ≤ j → j < i + d → f j = g j) → seg f i d = seg g i d := by
  intro d
  induction d with
  | zero => intro i _; rfl
  | succ d ih => intro i h; rw [seg, seg, h i (Nat.le_refl _) (by omega), ih (i + 1) (fun j h1 h2 => h j (by omega) (by omega))]
theorem rising_congr {n : Int} {f g : Nat → Int} {K : Nat} (h : Rising n f K) (he : ∀ i, i < K → f i = g i) : Rising n g K := by
  intro i hi
  obtain ⟨h0, h1, h2⟩ := h i hi
  rw [← he i hi]
  exact ⟨h0, h1, fun hp => by rw [← he (i - 1) (by omega)]; exact h2 hp⟩
theorem right_tab {n : Int} {f : Nat → Int} {k : Nat} (h0 : 0 ≤ n) (h1 : n ≤ 60) (h : Rising n f k) : RightP n (tab k f) := by
  refine ⟨h0, h1, ?_⟩
  rw [tab_len]
  exact rising_congr h fun i hi => (tab_get k f i hi).symm
theorem rkf_congr {f g : Nat → Int} : ∀ k, (∀ i, i < k → f i = g i) → rkf f k = rkf g k := by
  intro k
  induction k with
  | zero => intro _; rfl
  | succ k ih => intro h; rw [rkf, rkf, ih (fun i hi => h i (by omega)), h k (by omega)]
theorem rk_tab (f : Nat → Int) (k : Nat) : rk (tab k f) = rkf f k := by
  unfold rk
  rw [tab_len]
  exact rkf_congr k fun i hi => tab_get k f i hi
end Go.Proofs.Ytmiejokgjbnciaa
