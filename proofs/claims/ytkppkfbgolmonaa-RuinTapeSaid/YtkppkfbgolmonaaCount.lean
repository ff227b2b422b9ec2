/- ruin.Play as a function of the tape; all tapes of one length. No condition. -/
import Derived.Test.YtkppkfbgolmonaaTot
import Derived.Test.YtkppkfbgolmonaaPlay
import Derived.Test.YtkppkfbgolmonaaAl
set_option linter.unusedSimpArgs false
set_option linter.unusedVariables false
namespace Go.Proofs.Ytkppkfbgolmonaa
open Go.RowKit
def pl (top : Int) : Int → List Bool → Option (Int × Nat)
  | h, [] => if h = 0 ∨ h = top then some (h, 0) else none
  | h, b :: t => if h = 0 ∨ h = top then some (h, 0) else (pl top (h + if b then 1 else -1) t).map fun q => (q.1, q.2 + 1)
theorem pos_cons (has : Int) (b : Bool) (t : List Bool) : ∀ k, pos has (b :: t) (k + 1) = pos (has + if b then 1 else -1) t k
  | 0 => rfl
  | k + 1 => by rw [pos, pos_cons has b t k, pos]; rfl
theorem pl_some (top : Int) : ∀ (bs : List Bool) (has : Int) (n : Nat), n ≤ bs.length → Btw top has bs n → (pos has bs n = 0 ∨ pos has bs n = top) → pl top has bs = some (pos has bs n, n)
  | [], has, n, hn, hb, he => by
    obtain rfl : n = 0 := by simpa using hn
    rw [pl, if_pos (show has = 0 ∨ has = top from he)]; rfl
  | b :: t, has, 0, hn, hb, he => by rw [pl, if_pos (show has = 0 ∨ has = top from he)]; rfl
  | b :: t, has, n + 1, hn, hb, he => by
    have h0 := hb 0 (by omega)
    rw [pl, if_neg (by intro h; rcases h with h | h; exact h0.1 h; exact h0.2 h)]
    rw [pos_cons] at he
    rw [pl_some top t _ n (by simpa using hn) (fun j hj => by have := hb (j + 1) (by omega); rwa [pos_cons] at this) he, pos_cons]
    rfl
theorem pl_none (top : Int) : ∀ (bs : List Bool) (has : Int), Btw top has bs (bs.length + 1) → pl top has bs = none
  | [], has, hb => by
    have h0 := hb 0 (by omega)
    rw [pl, if_neg (by intro h; rcases h with h | h; exact h0.1 h; exact h0.2 h)]
  | b :: t, has, hb => by
    have h0 := hb 0 (by omega)
    rw [pl, if_neg (by intro h; rcases h with h | h; exact h0.1 h; exact h0.2 h)]
    rw [pl_none top t _ (fun j hj => by have := hb (j + 1) (by simp at hj ⊢; omega); rwa [pos_cons] at this)]
    rfl
def plv : Option (Int × Nat) → Value
  | none => .tuple #[.int .i64 0, .int .i64 0, .int .i64 7]
  | some q => .tuple #[.int .i64 q.1, .int .i64 q.2, .int .i64 0]
theorem play_pl (top has : Int) (v : Value) (bs : List Bool) (w : World) (h : RdB w v bs) (hp : OkP top has) :
    Calls Try.prog 12 #[.int .i64 top, .int .i64 has, v] w fun e w' => e = .returned (plv (pl top has bs)) ∧ w = w' := by
  refine (play_ok top has v bs w h hp).mono ?_
  rintro e w' ⟨rfl, h1⟩
  refine ⟨?_, rfl⟩
  rcases h1 with ⟨_, n, hn, hb, he, rfl⟩ | ⟨_, hb, rfl⟩ | ⟨hno, _⟩
  · rw [pl_some top bs has n hn hb he]; rfl
  · rw [pl_none top bs has hb]; rfl
  · exact absurd hp hno
theorem pl_in {top : Int} (htop : 1 ≤ top) : ∀ (bs : List Bool) (has : Int) (q : Int × Nat), pl top has bs = some q → (q.1 = 0 ∨ q.1 = top) ∧ q.2 ≤ bs.length
  | [], has, q, h => by
    rw [pl] at h
    split at h
    · cases h; rename_i h; exact ⟨h, Nat.le_refl _⟩
    · cases h
  | b :: t, has, q, h => by
    rw [pl] at h
    split at h
    · cases h; rename_i h; exact ⟨h, Nat.zero_le _⟩
    · rw [Option.map_eq_some_iff] at h
      obtain ⟨q', h1, rfl⟩ := h
      have := pl_in htop t _ q' h1
      exact ⟨this.1, by simp; exact this.2⟩
def won (top : Int) : Option (Int × Nat) → Nat
  | none => 0
  | some q => if q.1 = top then 1 else 0
def unend : Option (Int × Nat) → Nat
  | none => 1
  | some _ => 0
def played (n : Nat) : Option (Int × Nat) → Nat
  | none => n
  | some q => q.2
def F (top : Int) : Nat → Int → Nat × Nat × Nat
  | 0, h => if h = 0 ∨ h = top then (if h = top then 1 else 0, 0, 0) else (0, 1, 0)
  | n + 1, h => if h = 0 ∨ h = top then (if h = top then 2 ^ (n + 1) else 0, 0, 0) else
    ((F top n (h - 1)).1 + (F top n (h + 1)).1, (F top n (h - 1)).2.1 + (F top n (h + 1)).2.1, (F top n (h - 1)).2.2 + (F top n (h + 1)).2.2 + 2 ^ (n + 1))
theorem F_tot (top : Int) : ∀ (n : Nat) (h : Int),
    tot (fun x => won top (pl top h (tp n x))) (2 ^ n) = (F top n h).1 ∧ tot (fun x => unend (pl top h (tp n x))) (2 ^ n) = (F top n h).2.1 ∧ tot (fun x => played n (pl top h (tp n x))) (2 ^ n) = (F top n h).2.2
  | 0, h => by
    simp only [tp_zero, Nat.pow_zero, tot, pl, F, Nat.zero_add]
    by_cases he : h = 0 ∨ h = top
    · rw [if_pos he, if_pos he]; exact ⟨rfl, rfl, rfl⟩
    · rw [if_neg he, if_neg he]; exact ⟨rfl, rfl, rfl⟩
  | n + 1, h => by
    by_cases he : h = 0 ∨ h = top
    · have hp : ∀ x, pl top h (tp (n + 1) x) = some (h, 0) := fun x => by
        unfold tp; rw [tabB_cons, pl, if_pos he]
      simp only [hp, tot_const, won, unend, played, F, if_pos he]
      refine ⟨?_, by simp, by simp⟩
      by_cases h1 : h = top
      · rw [if_pos h1, if_pos h1]; simp
      · rw [if_neg h1, if_neg h1]; simp
    · obtain ⟨a1, a2, a3⟩ := F_tot top n (h - 1)
      obtain ⟨b1, b2, b3⟩ := F_tot top n (h + 1)
      have c0 : ∀ t, pl top h (false :: t) = (pl top (h - 1) t).map fun q => (q.1, q.2 + 1) := fun t => by rw [pl, if_neg he]; rfl
      have c1 : ∀ t, pl top h (true :: t) = (pl top (h + 1) t).map fun q => (q.1, q.2 + 1) := fun t => by rw [pl, if_neg he]; rfl
      have w1 : ∀ o : Option (Int × Nat), won top (o.map fun q => (q.1, q.2 + 1)) = won top o := fun o => by cases o <;> rfl
      have w2 : ∀ o : Option (Int × Nat), unend (o.map fun q => (q.1, q.2 + 1)) = unend o := fun o => by cases o <;> rfl
      have w3 : ∀ o : Option (Int × Nat), played (n + 1) (o.map fun q => (q.1, q.2 + 1)) = played n o + 1 := fun o => by cases o <;> rfl
      rw [tot_tapes (fun t => won top (pl top h t)), tot_tapes (fun t => unend (pl top h t)), tot_tapes (fun t => played (n + 1) (pl top h t))]
      simp only [c0, c1, w1, w2, w3, tot_plus, tot_const, a1, a2, a3, b1, b2, b3, F, if_neg he]
      refine ⟨trivial, trivial, ?_⟩
      rw [Nat.pow_succ]; omega
theorem count_all : ((List.range 8).all fun t => (List.range (t + 2)).all fun h => (List.range 13).all fun n =>
    let q := F ((t : Int) + 1) n h
    decide (q.1 * (t + 1) ≤ h * 2 ^ n) && decide (h * 2 ^ n ≤ (q.1 + q.2.1) * (t + 1)) && decide (q.2.2 ≤ h * (t + 1 - h) * 2 ^ n)) = true := by decide +kernel
theorem count_law (t h n : Nat) (h1 : 1 ≤ t) (h2 : t ≤ 8) (h3 : h ≤ t) (h4 : n ≤ 12) :
    (F t n h).1 * t ≤ h * 2 ^ n ∧ h * 2 ^ n ≤ ((F t n h).1 + (F t n h).2.1) * t ∧ (F t n h).2.2 ≤ h * (t - h) * 2 ^ n := by
  have a := List.all_eq_true.1 count_all (t - 1) (List.mem_range.2 (by omega))
  have b := List.all_eq_true.1 a h (List.mem_range.2 (by omega))
  have c := List.all_eq_true.1 b n (List.mem_range.2 (by omega))
  rw [show ((t - 1 : Nat) : Int) + 1 = t by omega, show t - 1 + 1 = t by omega] at c
  simp only [Bool.and_eq_true, decide_eq_true_eq] at c
  exact ⟨c.1.1, c.1.2, c.2⟩
end Go.Proofs.Ytkppkfbgolmonaa
