/- AliasJust: the plain law. No condition. -/
import Derived.Test.YtambhciacmkdoaaAliasTwoW
set_option linter.unusedSimpArgs false
set_option linter.unusedVariables false
namespace Go.Proofs.Ytambhciacmkdoaa.aliasJust
open Go.RowKit Go.Proofs.Ytambhciacmkdoaa
theorem tot_one {g h : Nat → Nat} {a : Nat} (he : ∀ k, k ≠ a → g k = h k) : ∀ n : Nat, (tot g n : Int) = tot h n + (if a < n then (g a : Int) - h a else 0)
  | 0 => by simp [tot]
  | n + 1 => by
    have ih := tot_one he n
    rw [tot, tot]
    by_cases e1 : n = a
    · subst e1
      rw [if_neg (Nat.lt_irrefl n)] at ih
      rw [if_pos (Nat.lt_succ_self n)]; omega
    · have := he n e1
      by_cases e3 : a < n
      · rw [if_pos e3] at ih; rw [if_pos (show a < n + 1 by omega)]; omega
      · rw [if_neg e3] at ih; rw [if_neg (show ¬ a < n + 1 by omega)]; omega
theorem tot_add (f g : Nat → Nat) : ∀ n, tot (fun q => f q + g q) n = tot f n + tot g n
  | 0 => rfl
  | n + 1 => by rw [tot, tot, tot, tot_add f g n]; omega
theorem tot_at (V : Nat → Nat) (d : Nat) : ∀ n, tot (fun q => if d = q then V q else 0) n = if d < n then V d else 0
  | 0 => rfl
  | n + 1 => by
    rw [tot, tot_at V d n]
    by_cases e : d = n
    · subst e; rw [if_neg (Nat.lt_irrefl d), if_pos rfl, if_pos (Nat.lt_succ_self d)]; omega
    · rw [if_neg e]
      by_cases e2 : d < n
      · rw [if_pos e2, if_pos (by omega)]; omega
      · rw [if_neg e2, if_neg (by omega)]
/-- How often an index is drawn, at all levels of the places below p. -/
def ct (V T : Nat → Nat) (S p d : Nat) : Nat := tot (fun q => (if d = q then V q else 0) + (if d = T q then S - V q else 0)) p
def row (V T : Nat → Nat) (p v d : Nat) : Nat := (if d = p then min v (V p) else 0) + (if d = T p then v - min v (V p) else 0)
def tm (V T : Nat → Nat) (S p v d : Nat) : Nat := ct V T S p d + row V T p v d
theorem tm0 (V T : Nat → Nat) (S p d : Nat) : tm V T S p 0 d = ct V T S p d := by
  unfold tm row; simp
theorem tm_step (V T : Nat → Nat) (S p v d : Nat) : tm V T S p (v + 1) d = if d = (if v < V p then p else T p) then tm V T S p v d + 1 else tm V T S p v d := by
  unfold tm row
  by_cases hv : v < V p
  · rw [if_pos hv]
    by_cases h1 : d = p <;> by_cases h2 : d = T p <;> simp only [h1, h2, if_true, if_false] <;> (try split) <;> omega
  · rw [if_neg hv]
    by_cases h1 : d = p <;> by_cases h2 : d = T p <;> simp only [h1, h2, if_true, if_false] <;> (try split) <;> omega
theorem tm_end (V T : Nat → Nat) (S p d : Nat) (h : V p ≤ S) : tm V T S p S d = ct V T S (p + 1) d := by
  unfold tm row ct
  rw [tot]
  have e : min S (V p) = V p := by omega
  rw [e]
theorem ct_le (V T : Nat → Nat) (S p d : Nat) (h : ∀ q, q < p → V q ≤ S) : ct V T S p d ≤ p * S := by
  unfold ct
  refine tot_le fun i hi => ?_
  have := h i hi
  split <;> split <;> omega
theorem tm_le (V T : Nat → Nat) (S p v d : Nat) (h : ∀ q, q < p → V q ≤ S) : tm V T S p v d ≤ p * S + v := by
  have := ct_le V T S p d h
  unfold tm row
  split <;> split <;> omega
def Jst (n S : Nat) (f : Nat → Nat) (s : St) : Prop := ∀ d, d < n → s.L d + tot (fun q => if d = s.T q then S - s.V q else 0) n = f d * n
theorem jst0 (n S : Nat) (f : Nat → Nat) : Jst n S f (st0 n S f) := fun d hd => by
  have : tot (fun q => if d = (st0 n S f).T q then S - (st0 n S f).V q else 0) n = 0 := by
    have := tot_le (f := fun q => if d = (st0 n S f).T q then S - (st0 n S f).V q else 0) (c := 0) (k := n) (fun i _ => by
      show (if d = i then S - S else 0) ≤ 0
      split <;> omega)
    omega
  rw [this]
  rfl
theorem jst_nxt {n S : Nat} {f : Nat → Nat} {s : St} (I : Inv n S f s) (J : Jst n S f s) (c : ¬ (loF n S s < 0 ∨ hiF n S s < 0)) : Jst n S f (nxt n S s) := fun d hd => by
  obtain ⟨l, h, hl, hh, dl, dh, ll, lh, hne, e⟩ := nxt_is c
  rw [e]
  have j := J d hd
  obtain ⟨v1, v2⟩ := I.free l dl
  simp only
  have t := tot_one (g := fun q => if d = upd s.T l h q then S - upd s.V l (s.L l) q else 0) (h := fun q => if d = s.T q then S - s.V q else 0) (a := l) (fun k hk => by
    unfold upd; simp only [if_neg hk]) n
  rw [if_pos hl] at t
  have e1 : (if d = upd s.T l h l then S - upd s.V l (s.L l) l else 0) = if d = h then S - s.L l else 0 := by unfold upd; simp
  have e2 : (if d = s.T l then S - s.V l else 0) = 0 := by rw [v1]; split <;> omega
  rw [e1, e2] at t
  unfold upd at t ⊢
  generalize f d * n = X at *
  by_cases h1 : d = h
  · subst h1
    rw [if_pos rfl] at t ⊢
    omega
  · rw [if_neg h1] at t ⊢
    omega
theorem jst_run {n S : Nat} {f : Nat → Nat} : ∀ (m : Nat) {s : St}, Inv n S f s → Jst n S f s → Jst n S f (run n S m s)
  | 0, s, I, J => J
  | m + 1, s, I, J => by
    rw [Ytambhciacmkdoaa.run]
    by_cases c : loF n S s < 0 ∨ hiF n S s < 0
    · rw [if_pos c]; exact J
    · rw [if_neg c]; exact jst_run m (I.nxt c) (jst_nxt I J c)
theorem fin_just {n S : Nat} {f : Nat → Nat} (hS : tot f n = S) {d : Nat} (hd : d < n) : ct (fin n S f).V (fin n S f).T S n d = f d * n := by
  have j := jst_run n (inv0 n S f hS) (jst0 n S f) d hd
  have j : (fin n S f).L d + tot (fun q => if d = (fin n S f).T q then S - (fin n S f).V q else 0) n = f d * n := j
  have I := fin_inv n S f hS
  unfold ct
  rw [tot_add (fun q => if d = q then (fin n S f).V q else 0) (fun q => if d = (fin n S f).T q then S - (fin n S f).V q else 0), tot_at, if_pos hd, ← j]
  congr 1
  cases h : (fin n S f).D d with
  | true => exact (I.done d hd h).1
  | false => rw [(I.free d h).1, fin_left hS hd h]
end Go.Proofs.Ytambhciacmkdoaa.aliasJust
