/- FenTwo: the plain law. No condition. -/
import Derived.Test.YtkljkogcahmaaaaAl
import Derived.Test.YtkljkogcahmaaaaPairs
set_option linter.unusedSimpArgs false
set_option linter.unusedVariables false
namespace Go.Proofs.Ytkljkogcahmaaaa.fenTwo
open Go.RowKit Go.Proofs.Ytkljkogcahmaaaa
def cnt (f : Nat → Nat) (n k : Nat) : Nat := min n (tot f (k + 1)) - min n (tot f k)
theorem cnt_zero (f : Nat → Nat) (k : Nat) : cnt f 0 k = 0 := by unfold cnt; omega
theorem cnt_le (f : Nat → Nat) (n k : Nat) : cnt f n k ≤ n := by unfold cnt; omega
theorem cnt_end (f : Nat → Nat) {N k : Nat} (hk : k < N) : cnt f (tot f N) k = f k := by
  have h1 := tot_mono (f := f) (show k + 1 ≤ N by omega)
  have h2 := tot_mono (f := f) (show k ≤ N by omega)
  unfold cnt
  rw [tot] at h1 ⊢
  omega
theorem cnt_step (f : Nat → Nat) {n k : Nat} (ha : AtP f n k) (j : Nat) : cnt f (n + 1) j = if j = k then cnt f n k + 1 else cnt f n j := by
  unfold AtP at ha
  unfold cnt
  by_cases e : j = k
  · subst e; rw [if_pos rfl]; omega
  · rw [if_neg e]
    rcases Nat.lt_or_gt_of_ne e with h | h
    · have h1 := tot_mono (f := f) (show j + 1 ≤ k by omega)
      have h2 := tot_mono (f := f) (show j ≤ j + 1 by omega)
      omega
    · have h1 := tot_mono (f := f) (show k + 1 ≤ j by omega)
      have h2 := tot_mono (f := f) (show j ≤ j + 1 by omega)
      omega
theorem tot_zap (f : Nat → Nat) {p N : Nat} (hp : p < N) : tot (zap f p) N + f p = tot f N := by
  have := tot_one (f := f) (g := zap f p) (k := p) (fun i hi => by unfold zap; rw [if_neg hi]) N
  rw [if_pos hp, show zap f p p = 0 by unfold zap; rw [if_pos rfl]] at this
  omega
theorem zap_le (f : Nat → Nat) (p j : Nat) : zap f p j ≤ f j := by unfold zap; split <;> omega
theorem tot_ge (f : Nat → Nat) {j N : Nat} (h : j < N) : f j ≤ tot f N := by
  have h1 := tot_mono (f := f) (show j + 1 ≤ N by omega)
  rw [tot] at h1; omega
theorem drw_two {f : Nat → Nat} {N A b p q : Nat} (hA : A < tot f N) (hp : AtP f A p) (hb : b < tot (zap f p) N) (hq : AtP (zap f p) b q) : drw N f [(A : Int), (b : Int)] = some [(p : Int), (q : Int)] := by
  have e1 : place f A N = p := (place_at hA).2.uniq hp
  have e2 : place (zap f p) b N = q := (place_at hb).2.uniq hq
  rw [drw, if_pos ⟨by omega, by omega⟩, Int.toNat_natCast, e1, drw, if_pos ⟨by omega, by omega⟩, Int.toNat_natCast, e2]
  rfl
def CC (f : Nat → Nat) (A p b i j : Nat) : Nat := cnt f A i * zap f i j + if i = p then cnt (zap f p) b j else 0
theorem CC_zero (f : Nat → Nat) (A p i j : Nat) : CC f A p 0 i j = cnt f A i * zap f i j := by
  unfold CC; rw [cnt_zero]; split <;> omega
theorem CC_end {f : Nat → Nat} {A p N : Nat} (ha : AtP f A p) (i : Nat) {j : Nat} (hj : j < N) : CC f A p (tot (zap f p) N) i j = cnt f (A + 1) i * zap f i j := by
  unfold CC
  rw [cnt_end _ hj, cnt_step f ha]
  by_cases e : i = p
  · subst e; rw [if_pos rfl, if_pos rfl, Nat.add_mul, Nat.one_mul]
  · rw [if_neg e, if_neg e, Nat.add_zero]
theorem CC_step {f : Nat → Nat} {A p b q : Nat} (hq : AtP (zap f p) b q) (i j : Nat) : inc (CC f A p b) p q i j = CC f A p (b + 1) i j := by
  unfold inc CC
  rw [cnt_step _ hq]
  by_cases e : i = p
  · subst e
    by_cases e2 : j = q
    · subst e2; simp; omega
    · simp [e2]
  · simp [e]
theorem CC_le {f : Nat → Nat} {A p b i j N : Nat} (hj : j < N) (hA : A ≤ 60) (hb : b ≤ 60) (hS : tot f N ≤ 60) : CC f A p b i j ≤ 3660 := by
  unfold CC
  have h1 := cnt_le f A i
  have h2 := Nat.le_trans (zap_le f i j) (tot_ge f hj)
  have h3 := cnt_le (zap f p) b j
  have h4 : cnt f A i * zap f i j ≤ 60 * 60 := Nat.mul_le_mul (by omega) (by omega)
  split <;> omega
end Go.Proofs.Ytkljkogcahmaaaa.fenTwo
