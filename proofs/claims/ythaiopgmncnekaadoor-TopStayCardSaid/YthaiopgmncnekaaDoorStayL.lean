/- TopStay: the plain law: orders by their rounds, for n to 6, decided. No condition but n to 6. -/
import Derived.Test.YthaiopgmncnekaaDoorCycAt
import Derived.Test.YthaiopgmncnekaaDoorCycOf
import Derived.Test.YthaiopgmncnekaaDoorUrnsParts
import Derived.Test.YthaiopgmncnekaaDoorUrnsWrongly
set_option linter.unusedSimpArgs false
set_option linter.unusedVariables false
set_option maxRecDepth 20000
namespace Go.Proofs.YthaiopgmncnekaaDoor.Stay
open Go.RowKit Go.Proofs.YthaiopgmncnekaaDoor.Cyc
def fct : Nat → Nat
  | 0 => 1
  | n + 1 => fct n * (n + 1)
/-- The rounds of the r-th order. -/
def rounds (n r : Nat) : List (List Nat) := cyc (nd (atL n r)) n n
def nc (n r : Nat) : Nat := (rounds n r).length
def loneB (n r : Nat) : Bool := (rounds n r).any fun l => l.length == 1
def okr (n r : Nat) : Bool := decide (rq r n = 0) && decide (OkP (atL n r)) && decide ((atL n r).length = n) && decide (nc n r ≤ n)
/-- How many of the first r orders have none that stays; how many have k rounds. -/
def free (n : Nat) : Nat → Nat
  | 0 => 0
  | r + 1 => free n r + if loneB n r then 0 else 1
def many (n k : Nat) : Nat → Nat
  | 0 => 0
  | r + 1 => many n k r + if nc n r = k then 1 else 0
def sumTo (f : Nat → Nat) : Nat → Nat
  | 0 => 0
  | k + 1 => sumTo f k + f k
def chk (n : Nat) : Bool := (List.range (fct n)).all (okr n) && decide ((free n (fct n) : Int) = (Urns.wr2 n).1) && ((List.range (n + 1)).all fun k => decide (0 ≤ Urns.parts n k) && decide (Urns.parts n k ≤ (many n k (fct n) : Int))) && decide (sumTo (fun k => many n k (fct n)) (n + 1) = fct n)
theorem all_ok {n : Nat} (hn : n ≤ 6) : chk n = true := by
  have : ((List.range 7).all chk) = true := by decide +kernel
  exact List.all_eq_true.1 this n (List.mem_range.2 (by omega))
theorem fct_le {n : Nat} (hn : n ≤ 6) : fct n ≤ 720 := by
  match n, hn with
  | 0, _ => decide
  | 1, _ => decide
  | 2, _ => decide
  | 3, _ => decide
  | 4, _ => decide
  | 5, _ => decide
  | 6, _ => decide
theorem chk_r {n r : Nat} (hn : n ≤ 6) (hr : r < fct n) : rq r n = 0 ∧ OkP (atL n r) ∧ (atL n r).length = n ∧ nc n r ≤ n := by
  have h := all_ok hn
  unfold chk at h
  simp only [Bool.and_eq_true] at h
  have := List.all_eq_true.1 h.1.1.1 r (List.mem_range.2 hr)
  unfold okr at this
  simp only [Bool.and_eq_true, decide_eq_true_eq] at this
  exact ⟨this.1.1.1, this.1.1.2, this.1.2, this.2⟩
theorem chk_free {n : Nat} (hn : n ≤ 6) : (free n (fct n) : Int) = (Urns.wr2 n).1 := by
  have h := all_ok hn
  unfold chk at h
  simp only [Bool.and_eq_true, decide_eq_true_eq] at h
  exact h.1.1.2
theorem chk_parts {n k : Nat} (hn : n ≤ 6) (hk : k < n + 1) : 0 ≤ Urns.parts n k ∧ Urns.parts n k ≤ (many n k (fct n) : Int) := by
  have h := all_ok hn
  unfold chk at h
  simp only [Bool.and_eq_true] at h
  have := List.all_eq_true.1 h.1.2 k (List.mem_range.2 hk)
  simpa using this
theorem chk_sum {n : Nat} (hn : n ≤ 6) : sumTo (fun k => many n k (fct n)) (n + 1) = fct n := by
  have h := all_ok hn
  unfold chk at h
  simp only [Bool.and_eq_true, decide_eq_true_eq] at h
  exact h.2
theorem free_le (n : Nat) : ∀ r, free n r ≤ r
  | 0 => Nat.le_refl _
  | r + 1 => by
    have := free_le n r
    show free n r + _ ≤ r + 1
    split <;> omega
theorem many_le (n k : Nat) : ∀ r, many n k r ≤ r
  | 0 => Nat.le_refl _
  | r + 1 => by
    have := many_le n k r
    show many n k r + _ ≤ r + 1
    split <;> omega
theorem sumTo_le (f : Nat → Nat) {k : Nat} : ∀ m, k ≤ m → sumTo f k ≤ sumTo f m
  | 0, h => by
    have e : k = 0 := by omega
    rw [e]; exact Nat.le_refl _
  | m + 1, h => by
    by_cases e : k = m + 1
    · rw [e]; exact Nat.le_refl _
    · have := sumTo_le (k := k) f m (by omega)
      show _ ≤ sumTo f m + f m
      omega
end Go.Proofs.YthaiopgmncnekaaDoor.Stay
