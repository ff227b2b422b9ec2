/- The rows of urns.Parts, as lists; that they stay small. No condition. -/
import Derived.Test.YthaiopgmncnekaaDoorRows
set_option linter.unusedSimpArgs false
set_option linter.unusedVariables false
set_option maxRecDepth 20000
namespace Go.Proofs.YthaiopgmncnekaaDoor.Urns
/-- One cell of a row, renewed. -/
def cellNew (c : List Int) (j : Nat) : List Int := c.set j ((j : Int) * c.getD j 0 + c.getD (j - 1) 0)
/-- The cells k, k-1, .. of a row, renewed: i of them. -/
def rin (c : List Int) (k : Nat) : Nat → List Int
  | 0 => c
  | i + 1 => cellNew (rin c k i) (k - i)
def rnext (c : List Int) (k : Nat) : List Int := (rin c k k).set 0 0
def prow (k : Nat) : Nat → List Int
  | 0 => (List.replicate (k + 1) 0).set 0 1
  | n + 1 => rnext (prow k n) k
def parts (n k : Nat) : Int := (prow k n).getD k 0
def small (c : List Int) : Bool := c.all fun x => decide (0 ≤ x ∧ x ≤ 100000000000000)
/-- All rows between are small: i more cells of this row. -/
def chkIn (c : List Int) (k : Nat) : Nat → Nat → Bool
  | _, 0 => small c
  | j, f + 1 => small c && chkIn (cellNew c j) k (j - 1) f
def chk (k : Nat) : Nat → List Int → Bool
  | 0, c => small c
  | n + 1, c => chkIn c k k k && chk k n (rnext c k)
theorem chk_all : ∀ k, k < 21 → chk k 20 (prow k 0) = true := by decide +kernel
theorem rin_front (c : List Int) (j : Nat) : ∀ i, rin (cellNew c j) (j - 1) i = rin c j (i + 1) := by
  intro i
  induction i with
  | zero => rfl
  | succ i ih => rw [rin, ih, rin, show j - 1 - i = j - (i + 1) by omega]; rfl
theorem chkIn_small {k : Nat} : ∀ f j (c : List Int), chkIn c k j f = true → ∀ i, i ≤ f → small (rin c j i) = true := by
  intro f
  induction f with
  | zero => intro j c h i hi; cases i with
    | zero => unfold chkIn at h; exact h
    | succ i => omega
  | succ f ih =>
    intro j c h i hi
    simp only [chkIn, Bool.and_eq_true] at h
    cases i with
    | zero => exact h.1
    | succ i => rw [← rin_front]; exact ih (j - 1) (cellNew c j) h.2 i (by omega)
def it (k : Nat) : Nat → List Int → List Int
  | 0, c => c
  | m + 1, c => it k m (rnext c k)
theorem it_back (k : Nat) : ∀ m c, it k (m + 1) c = rnext (it k m c) k := by
  intro m
  induction m with
  | zero => intro c; rfl
  | succ m ih => intro c; rw [it, ih (rnext c k)]; rfl
theorem prow_it (k : Nat) : ∀ m, prow k m = it k m (prow k 0) := by
  intro m
  induction m with
  | zero => rfl
  | succ m ih => rw [it_back, ← ih]; rfl
theorem chk_it {k : Nat} : ∀ n c, chk k n c = true → ∀ m, m ≤ n → small (it k m c) = true ∧ (m < n → chkIn (it k m c) k k k = true) := by
  intro n
  induction n with
  | zero =>
    intro c h m hm
    obtain rfl : m = 0 := by omega
    unfold chk at h
    exact ⟨h, fun h => by omega⟩
  | succ n ih =>
    intro c h m hm
    simp only [chk, Bool.and_eq_true] at h
    cases m with
    | zero => exact ⟨chkIn_small k k c h.1 0 (by omega), fun _ => h.1⟩
    | succ m => exact ⟨(ih _ h.2 m (by omega)).1, fun hlt => (ih _ h.2 m (by omega)).2 (by omega)⟩
/-- All rows that Parts makes are small. -/
theorem prow_small (k n : Nat) (hk : k ≤ 20) (hn : n ≤ 20) : small (prow k n) = true := by
  rw [prow_it]; exact (chk_it 20 _ (chk_all k (by omega)) n hn).1
theorem rin_small (k n i : Nat) (hk : k ≤ 20) (hn : n < 20) (hi : i ≤ k) : small (rin (prow k n) k i) = true := by
  rw [prow_it]; exact chkIn_small k k _ ((chk_it 20 _ (chk_all k (by omega)) n (by omega)).2 hn) i hi
theorem small_get {c : List Int} (h : small c = true) (j : Nat) : 0 ≤ c.getD j 0 ∧ c.getD j 0 ≤ 100000000000000 := by
  rw [List.getD_eq_getElem?_getD]
  rcases Nat.lt_or_ge j c.length with hj | hj
  · rw [List.getElem?_eq_getElem hj]
    have := List.all_eq_true.1 h c[j] (by simp)
    simpa using this
  · rw [List.getElem?_eq_none hj]; simp
theorem rin_len (c : List Int) (k : Nat) : ∀ i, (rin c k i).length = c.length := by
  intro i
  induction i with
  | zero => rfl
  | succ i ih => simp only [rin, cellNew, List.length_set, ih]
theorem prow_len (k n : Nat) : (prow k n).length = k + 1 := by
  induction n with
  | zero => simp [prow]
  | succ n ih => simp only [prow, rnext, List.length_set, rin_len, ih]
end Go.Proofs.YthaiopgmncnekaaDoor.Urns
