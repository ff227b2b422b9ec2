/- What is not chosen of what is not chosen is the choice. No condition. -/
import Derived.Test.YtmiejokgjbnciaaRest
set_option linter.unusedSimpArgs false
set_option linter.unusedVariables false
namespace Go.Proofs.Ytmiejokgjbnciaa
open Go.RowKit
theorem sorted_ext : ∀ (a b : List Int), a.Pairwise (· < ·) → b.Pairwise (· < ·) → (∀ y, y ∈ a ↔ y ∈ b) → a = b := by
  intro a
  induction a with
  | nil =>
    intro b _ _ h
    cases b with
    | nil => rfl
    | cons y ys => exact absurd ((h y).2 (by simp)) (by simp)
  | cons x xs ih =>
    intro b ha hb h
    cases b with
    | nil => exact absurd ((h x).1 (by simp)) (by simp)
    | cons y ys =>
      rw [List.pairwise_cons] at ha hb
      have e : x = y := by
        have h1 := (h x).1 (by simp)
        have h2 := (h y).2 (by simp)
        simp only [List.mem_cons] at h1 h2
        rcases h1 with h1 | h1
        · exact h1
        · rcases h2 with h2 | h2
          · exact h2.symm
          · have := ha.1 y h2; have := hb.1 x h1; omega
      subst e
      congr 1
      refine ih ys ha.2 hb.2 fun z => ?_
      have hz := h z
      simp only [List.mem_cons] at hz
      constructor
      · intro hm
        rcases hz.1 (.inr hm) with h1 | h1
        · subst h1; have := ha.1 z hm; omega
        · exact h1
      · intro hm
        rcases hz.2 (.inr hm) with h1 | h1
        · subst h1; have := hb.1 z hm; omega
        · exact h1
theorem right_sorted {n : Int} {zs : List Int} (h : RightP n zs) : zs.Pairwise (· < ·) := by
  rw [List.pairwise_iff_getElem]
  intro i j hi hj hij
  have := rising_gap h.2.2 (j - i) i (by omega)
  rw [show i + (j - i) = j by omega] at this
  simp only [List.getD_eq_getElem?_getD, List.getElem?_eq_getElem hi, List.getElem?_eq_getElem hj, Option.getD_some] at this
  omega
theorem right_mem {n : Int} {zs : List Int} (h : RightP n zs) (y : Int) (hy : y ∈ zs) : 0 ≤ y ∧ y < n := by
  obtain ⟨i, hi, e⟩ := List.mem_iff_getElem.1 hy
  obtain ⟨h1, h2, _⟩ := h.2.2 i hi
  simp only [List.getD_eq_getElem?_getD, List.getElem?_eq_getElem hi, Option.getD_some] at h1 h2
  rw [← e]; exact ⟨h1, h2⟩
theorem right_of {n : Int} {zs : List Int} (h0 : 0 ≤ n) (h1 : n ≤ 60) (hs : zs.Pairwise (· < ·)) (hm : ∀ y, y ∈ zs → 0 ≤ y ∧ y < n) : RightP n zs := by
  refine ⟨h0, h1, fun i hi => ?_⟩
  have := hm zs[i] (by simp)
  simp only [List.getD_eq_getElem?_getD, List.getElem?_eq_getElem hi, Option.getD_some]
  refine ⟨this.1, this.2, fun hp => ?_⟩
  have := (List.pairwise_iff_getElem.1 hs) (i - 1) i (by omega) hi (by omega)
  simp only [List.getElem?_eq_getElem (show i - 1 < zs.length by omega), Option.getD_some]
  exact this
theorem rs_mem (zs : List Int) (x : Nat) (y : Int) : y ∈ rs zs x ↔ 0 ≤ y ∧ y < x ∧ ¬ y ∈ zs := by
  induction x with
  | zero => simp [rs]; omega
  | succ x ih =>
    rw [rs]
    by_cases h : (x : Int) ∈ zs
    · rw [if_pos h, ih]
      constructor
      · rintro ⟨a, b, c⟩; exact ⟨a, by omega, c⟩
      · rintro ⟨a, b, c⟩
        refine ⟨a, ?_, c⟩
        rcases Int.lt_or_le y x with h1 | h1
        · exact h1
        · exact absurd (by rw [show y = (x : Int) by omega]; exact h) c
    · rw [if_neg h, List.mem_append, ih, List.mem_singleton]
      constructor
      · rintro (⟨a, b, c⟩ | e)
        · exact ⟨a, by omega, c⟩
        · subst e; exact ⟨by omega, by omega, h⟩
      · rintro ⟨a, b, c⟩
        rcases Int.lt_or_le y x with h1 | h1
        · exact .inl ⟨a, h1, c⟩
        · exact .inr (by omega)
theorem rs_sorted (zs : List Int) (x : Nat) : (rs zs x).Pairwise (· < ·) := by
  induction x with
  | zero => exact List.Pairwise.nil
  | succ x ih =>
    rw [rs]
    split
    · exact ih
    · rw [List.pairwise_append]
      refine ⟨ih, by simp, fun a ha b hb => ?_⟩
      simp only [List.mem_singleton] at hb
      subst hb
      exact ((rs_mem zs x a).1 ha).2.1
theorem rs_right {n : Nat} (zs : List Int) (h : n ≤ 60) : RightP n (rs zs n) :=
  right_of (by omega) (by omega) (rs_sorted zs n) fun y hy => by
    have := (rs_mem zs n y).1 hy
    exact ⟨this.1, this.2.1⟩
theorem rs_rs {n : Nat} {zs : List Int} (h : RightP n zs) : rs (rs zs n) n = zs := by
  refine sorted_ext _ _ (rs_sorted _ _) (right_sorted h) fun y => ?_
  rw [rs_mem, rs_mem]
  constructor
  · rintro ⟨a, b, c⟩
    exact Classical.byContradiction fun hn => c ⟨a, b, hn⟩
  · intro hy
    have := right_mem h y hy
    exact ⟨this.1, this.2, fun hh => hh.2.2 hy⟩
theorem rs_count {n : Nat} {zs : List Int} (h : RightP n zs) : ∀ x, x ≤ n → (rs zs x).length + (rs (rs zs n) x).length = x := by
  intro x
  induction x with
  | zero => intro _; rfl
  | succ x ih =>
    intro hx
    have := ih (by omega)
    rw [rs, rs]
    by_cases hm : (x : Int) ∈ zs
    · rw [if_pos hm, if_neg (fun hh => ((rs_mem zs n x).1 hh).2.2 hm), List.length_append]
      simp only [List.length_singleton]; omega
    · rw [if_neg hm, if_pos ((rs_mem zs n x).2 ⟨by omega, by omega, hm⟩), List.length_append]
      simp only [List.length_singleton]; omega
theorem rs_total {n : Nat} {zs : List Int} (h : RightP n zs) : (rs zs n).length + zs.length = n := by
  have := rs_count h n (Nat.le_refl _)
  rwa [rs_rs h] at this
end Go.Proofs.Ytmiejokgjbnciaa
