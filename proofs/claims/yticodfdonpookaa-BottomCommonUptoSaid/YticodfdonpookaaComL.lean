/- Plain law: how many of the lowest ones of both are in both, against how many are in both. No condition. -/
import Derived.Test.YticodfdonpookaaSuHas
set_option linter.unusedSimpArgs false
set_option linter.unusedVariables false
set_option maxRecDepth 20000
namespace Go.Proofs.Yticodfdonpookaa.Su
open Go.RowKit Go.Proofs.Yticodfdonpookaa
theorem nodup_le {α : Type} [DecidableEq α] : ∀ (a b : List α), a.Nodup → (∀ x ∈ a, x ∈ b) → a.length ≤ b.length
  | [], b, _, _ => Nat.zero_le _
  | x :: a, b, h, hs => by
    have h' := List.nodup_cons.1 h
    have hx := hs x List.mem_cons_self
    have := nodup_le a (b.erase x) h'.2 fun y hy => (List.mem_erase_of_ne (fun (e : y = x) => h'.1 (e ▸ hy))).2 (hs y (List.mem_cons_of_mem _ hy))
    rw [List.length_erase_of_mem hx] at this
    have hp := List.length_pos_of_mem hx
    simp only [List.length_cons]
    omega
theorem nodup_eq {α : Type} [DecidableEq α] {a b : List α} (ha : a.Nodup) (hb : b.Nodup) (h : ∀ x, x ∈ a ↔ x ∈ b) : a.length = b.length :=
  Nat.le_antisymm (nodup_le a b ha fun x hx => (h x).1 hx) (nodup_le b a hb fun x hx => (h x).2 hx)
theorem asc_nodup {s : BitVec 64} {l : List (BitVec 64)} (h : Asc s l) : l.Nodup := List.Pairwise.imp (fun {a b} (h : U (rk s a) < U (rk s b)) (e : a = b) => by rw [e] at h; omega) h
theorem sk_sub {s : BitVec 64} {r : Nat} {l : List (BitVec 64)} {z : BitVec 64} (h : z ∈ sk s r l) : z ∈ l := (dd_mem s z l).1 (List.mem_of_mem_take h)
theorem sk_all {s : BitVec 64} {r : Nat} {l : List (BitVec 64)} (h : (dd s l).length ≤ r) : sk s r l = dd s l := List.take_of_length_le h
theorem sk_self (s : BitVec 64) (r : Nat) (l : List (BitVec 64)) : sk s r (sk s r l ++ sk s r l) = sk s r l := by
  rw [sk_both]
  exact sk_congr r fun x => by simp
theorem both_self (l : List (BitVec 64)) : both l l l = l.length := by
  unfold both
  rw [List.filter_eq_self.2]
  intro z hz
  simp [hz]
theorem both_sub (s : BitVec 64) (r : Nat) (xs ys ds : List (BitVec 64)) (hd : ∀ z, z ∈ ds ↔ z ∈ xs) : both (sk s r (xs ++ ys)) (sk s r xs) (sk s r ys) ≤ (ds.filter fun z => decide (z ∈ ys)).length := by
  refine nodup_le _ _ ((asc_nodup (sk_asc s r (xs ++ ys))).filter _) fun z hz => ?_
  simp only [List.mem_filter, Bool.and_eq_true, decide_eq_true_eq] at hz ⊢
  exact ⟨(hd z).2 (sk_sub hz.2.1), sk_sub hz.2.2⟩
theorem both_all (s : BitVec 64) (r : Nat) (xs ys ds es : List (BitVec 64)) (hn : ds.Nodup) (hd : ∀ z, z ∈ ds ↔ z ∈ xs) (he : es.Nodup) (hm : ∀ z, z ∈ es ↔ z ∈ xs ++ ys) (hr : es.length ≤ r) :
    both (sk s r (xs ++ ys)) (sk s r xs) (sk s r ys) = (ds.filter fun z => decide (z ∈ ys)).length ∧ (sk s r (xs ++ ys)).length = es.length := by
  have a0 : (dd s (xs ++ ys)).length = es.length := nodup_eq (asc_nodup (dd_asc _ _)) he fun z => by rw [dd_mem, hm]
  have a1 : (dd s xs).length ≤ es.length := nodup_le _ _ (asc_nodup (dd_asc _ _)) fun z hz => (hm z).2 (List.mem_append_left _ ((dd_mem s z xs).1 hz))
  have a2 : (dd s ys).length ≤ es.length := nodup_le _ _ (asc_nodup (dd_asc _ _)) fun z hz => (hm z).2 (List.mem_append_right _ ((dd_mem s z ys).1 hz))
  rw [sk_all (by omega), sk_all (by omega), sk_all (by omega)]
  refine ⟨?_, a0⟩
  unfold both
  refine nodup_eq ((asc_nodup (dd_asc _ _)).filter _) (hn.filter _) fun z => ?_
  simp only [List.mem_filter, Bool.and_eq_true, decide_eq_true_eq, dd_mem, hd, List.mem_append]
  exact ⟨fun h => h.2, fun h => ⟨Or.inl h.1, h⟩⟩
/-- What the statement asks, all at once. -/
theorem com_law (s : BitVec 64) (r : Nat) (xs ys ds es : List (BitVec 64)) (hn : ds.Nodup) (hd : ∀ z, z ∈ ds ↔ z ∈ xs) (he : es.Nodup) (hm : ∀ z, z ∈ es ↔ z ∈ xs ++ ys) :
    both (sk s r (sk s r xs ++ sk s r ys)) (sk s r xs) (sk s r ys) ≤ (ds.filter fun z => decide (z ∈ ys)).length ∧
    (r < es.length ∨ (both (sk s r (sk s r xs ++ sk s r ys)) (sk s r xs) (sk s r ys) = (ds.filter fun z => decide (z ∈ ys)).length ∧ (sk s r (sk s r xs ++ sk s r ys)).length = es.length)) := by
  rw [sk_both]
  refine ⟨both_sub s r xs ys ds hd, ?_⟩
  by_cases h : r < es.length
  · exact Or.inl h
  · exact Or.inr (both_all s r xs ys ds es hn hd he hm (by omega))
end Go.Proofs.Yticodfdonpookaa.Su
