/- What alias.Make's places are: the plain law. No condition. -/
import Derived.Test.YtambhciacmkdoaaAl
set_option linter.unusedSimpArgs false
set_option linter.unusedVariables false
namespace Go.Proofs.Ytambhciacmkdoaa
open Go.RowKit
/-- What is left over the places that are not done. -/
def lf (s : St) (k : Nat) : Nat := if s.D k = true then 0 else s.L k
structure Inv (n S : Nat) (f : Nat → Nat) (s : St) : Prop where
  free : ∀ k, s.D k = false → s.V k = S ∧ s.T k = k
  done : ∀ k, k < n → s.D k = true → s.V k = s.L k ∧ s.L k < S ∧ s.T k < n
  sum : tot (lf s) n = S * undone s.D n
  zero : ∀ k, f k = 0 → s.L k = 0
theorem tot_two {g h : Nat → Nat} {a b : Nat} (hne : a ≠ b) (he : ∀ k, k ≠ a → k ≠ b → g k = h k) : ∀ n : Nat, (tot g n : Int) = tot h n + (if a < n then (g a : Int) - h a else 0) + (if b < n then (g b : Int) - h b else 0)
  | 0 => by simp [tot]
  | n + 1 => by
    have ih := tot_two hne he n
    rw [tot, tot]
    by_cases e1 : n = a
    · subst e1
      rw [if_neg (Nat.lt_irrefl n)] at ih
      rw [if_pos (Nat.lt_succ_self n)]
      by_cases e2 : b < n
      · rw [if_pos e2] at ih; rw [if_pos (show b < n + 1 by omega)]; omega
      · rw [if_neg e2] at ih; rw [if_neg (show ¬ b < n + 1 by omega)]; omega
    · by_cases e2 : n = b
      · subst e2
        rw [if_neg (Nat.lt_irrefl n)] at ih
        rw [if_pos (Nat.lt_succ_self n)]
        by_cases e3 : a < n
        · rw [if_pos e3] at ih; rw [if_pos (show a < n + 1 by omega)]; omega
        · rw [if_neg e3] at ih; rw [if_neg (show ¬ a < n + 1 by omega)]; omega
      · have := he n e1 e2
        by_cases e3 : a < n
        · rw [if_pos e3] at ih
          rw [if_pos (show a < n + 1 by omega)]
          by_cases e4 : b < n
          · rw [if_pos e4] at ih; rw [if_pos (show b < n + 1 by omega)]; omega
          · rw [if_neg e4] at ih; rw [if_neg (show ¬ b < n + 1 by omega)]; omega
        · rw [if_neg e3] at ih
          rw [if_neg (show ¬ a < n + 1 by omega)]
          by_cases e4 : b < n
          · rw [if_pos e4] at ih; rw [if_pos (show b < n + 1 by omega)]; omega
          · rw [if_neg e4] at ih; rw [if_neg (show ¬ b < n + 1 by omega)]; omega
/-- What a turn does, in plain words. -/
theorem nxt_is {n S : Nat} {s : St} (c : ¬ (loF n S s < 0 ∨ hiF n S s < 0)) : ∃ l h, l < n ∧ h < n ∧ s.D l = false ∧ s.D h = false ∧ s.L l < S ∧ S < s.L h ∧ l ≠ h ∧
    nxt n S s = ⟨upd s.L h (s.L h - (S - s.L l)), fun k => if k = l then true else s.D k, upd s.V l (s.L l), upd s.T l h⟩ := by
  obtain ⟨l, e1, hl1, hl2⟩ := fl_at (p := lowp S s.L s.D) (k := n) (by have : ¬ loF n S s < 0 := fun h => c (.inl h); unfold loF at this; omega)
  obtain ⟨h, e2, hh1, hh2⟩ := fl_at (p := highp S s.L s.D) (k := n) (by have : ¬ hiF n S s < 0 := fun h => c (.inr h); unfold hiF at this; omega)
  have e1 : loF n S s = (l : Int) := e1
  have e2 : hiF n S s = (h : Int) := e2
  have hlx : s.D l = false ∧ s.L l < S := by unfold lowp at hl2; simpa using hl2
  have hhx : s.D h = false ∧ S < s.L h := by unfold highp at hh2; simpa using hh2
  exact ⟨l, h, hl1, hh1, hlx.1, hhx.1, hlx.2, hhx.2, fun e => by subst e; omega, by unfold nxt; simp [e1, e2]⟩
theorem Inv.nxt {n S : Nat} {f : Nat → Nat} {s : St} (I : Inv n S f s) (c : ¬ (loF n S s < 0 ∨ hiF n S s < 0)) : Inv n S f (nxt n S s) := by
  have hu := nxt_undone (n := n) (S := S) (s := s) (by omega)
  obtain ⟨l, h, hl, hh, dl, dh, ll, lh, hne, e⟩ := nxt_is c
  rw [e] at hu ⊢
  refine ⟨fun k hk => ?_, fun k hk hd => ?_, ?_, fun k hk => ?_⟩
  · simp only at hk ⊢
    by_cases ek : k = l
    · rw [if_pos ek] at hk; cases hk
    · rw [if_neg ek] at hk
      unfold upd
      rw [if_neg ek, if_neg ek]
      exact I.free k hk
  · simp only at hd ⊢
    unfold upd
    by_cases ek : k = l
    · subst ek
      rw [if_pos rfl, if_pos rfl, if_neg hne]
      exact ⟨rfl, ll, hh⟩
    · rw [if_neg ek] at hd
      rw [if_neg ek, if_neg ek]
      have hkh : k ≠ h := fun e => by subst e; rw [dh] at hd; cases hd
      rw [if_neg hkh]
      exact I.done k hk hd
  · have t := tot_two (g := lf ⟨upd s.L h (s.L h - (S - s.L l)), fun k => if k = l then true else s.D k, upd s.V l (s.L l), upd s.T l h⟩) (h := lf s) (a := l) (b := h) hne (fun k h1 h2 => by
      unfold lf upd
      simp only
      rw [if_neg h1, if_neg h2]) n
    rw [if_pos hl, if_pos hh, I.sum] at t
    have e1 : lf ⟨upd s.L h (s.L h - (S - s.L l)), fun k => if k = l then true else s.D k, upd s.V l (s.L l), upd s.T l h⟩ l = 0 := by unfold lf; simp
    have e2 : lf s l = s.L l := by unfold lf; rw [dl]; rfl
    have e3 : lf ⟨upd s.L h (s.L h - (S - s.L l)), fun k => if k = l then true else s.D k, upd s.V l (s.L l), upd s.T l h⟩ h = s.L h - (S - s.L l) := by unfold lf upd; simp [Ne.symm hne, dh]
    have e4 : lf s h = s.L h := by unfold lf; rw [dh]; rfl
    rw [e1, e2, e3, e4] at t
    simp only at hu
    have hm : S * undone s.D n = S * undone (fun k => if k = l then true else s.D k) n + S := by rw [← hu, Nat.mul_add, Nat.mul_one]
    have : ((s.L h - (S - s.L l) : Nat) : Int) = (s.L h : Int) - ((S : Int) - s.L l) := by omega
    rw [this] at t
    show tot _ n = S * undone (fun k => if k = l then true else s.D k) n
    generalize S * undone (fun k => if k = l then true else s.D k) n = A at *
    generalize S * undone s.D n = B at *
    omega
  · simp only
    unfold upd
    have := I.zero k hk
    by_cases ek : k = h
    · subst ek; omega
    · rw [if_neg ek]; exact this
theorem Inv.run {n S : Nat} {f : Nat → Nat} : ∀ (m : Nat) {s : St}, Inv n S f s → Inv n S f (run n S m s)
  | 0, s, I => I
  | m + 1, s, I => by
    rw [Ytambhciacmkdoaa.run]
    by_cases c : loF n S s < 0 ∨ hiF n S s < 0
    · rw [if_pos c]; exact I
    · rw [if_neg c]; exact Inv.run m (I.nxt c)
theorem tot_mul (f : Nat → Nat) (c : Nat) : ∀ k, tot (fun i => f i * c) k = tot f k * c
  | 0 => by rw [tot, tot, Nat.zero_mul]
  | k + 1 => by rw [tot, tot, tot_mul f c k, Nat.add_mul]
theorem inv0 (n S : Nat) (f : Nat → Nat) (hS : tot f n = S) : Inv n S f (st0 n S f) := by
  refine ⟨fun k _ => ⟨rfl, rfl⟩, fun k _ h => absurd h Bool.false_ne_true, ?_, fun k hk => by show f k * n = 0; rw [hk, Nat.zero_mul]⟩
  have : tot (lf (st0 n S f)) n = tot (fun i => f i * n) n := tot_congr fun k _ => rfl
  rw [this, tot_mul, hS]
  show S * n = S * undone (fun _ => false) n
  rw [undone_all]
theorem fin_inv (n S : Nat) (f : Nat → Nat) (hS : tot f n = S) : Inv n S f (fin n S f) := Inv.run n (inv0 n S f hS)
theorem fin_stop (n S : Nat) (f : Nat → Nat) : loF n S (fin n S f) < 0 ∨ hiF n S (fin n S f) < 0 := run_stop n _ (Nat.le_of_eq (undone_all n))
theorem tot_same {g : Nat → Nat} {D : Nat → Bool} {S : Nat} : ∀ {n : Nat}, (∀ k, k < n → D k = false → g k ≤ S) → (∀ k, k < n → D k = true → g k = 0) → tot g n ≤ S * undone D n ∧ (tot g n = S * undone D n → ∀ k, k < n → D k = false → g k = S)
  | 0, _, _ => ⟨Nat.zero_le _, fun _ k hk => absurd hk (Nat.not_lt_zero k)⟩
  | n + 1, h1, h2 => by
    obtain ⟨a1, a2⟩ := tot_same (n := n) (fun k hk => h1 k (by omega)) (fun k hk => h2 k (by omega))
    rw [tot, undone]
    cases hD : D n with
    | true =>
      rw [h2 n (by omega) hD, if_pos rfl, Nat.add_zero, Nat.add_zero]
      refine ⟨a1, fun e k hk hd => ?_⟩
      by_cases ek : k = n
      · subst ek; rw [hD] at hd; cases hd
      · exact a2 e k (by omega) hd
    | false =>
      have := h1 n (by omega) hD
      rw [if_neg Bool.false_ne_true, Nat.mul_add, Nat.mul_one]
      refine ⟨by omega, fun e k hk hd => ?_⟩
      by_cases ek : k = n
      · subst ek; omega
      · exact a2 (by omega) k (by omega) hd
theorem tot_same' {g : Nat → Nat} {D : Nat → Bool} {S : Nat} : ∀ {n : Nat}, (∀ k, k < n → D k = false → S ≤ g k) → (∀ k, k < n → D k = true → g k = 0) → S * undone D n ≤ tot g n ∧ (tot g n = S * undone D n → ∀ k, k < n → D k = false → g k = S)
  | 0, _, _ => ⟨Nat.le_refl _, fun _ k hk => absurd hk (Nat.not_lt_zero k)⟩
  | n + 1, h1, h2 => by
    obtain ⟨a1, a2⟩ := tot_same' (n := n) (fun k hk => h1 k (by omega)) (fun k hk => h2 k (by omega))
    rw [tot, undone]
    cases hD : D n with
    | true =>
      rw [h2 n (by omega) hD, if_pos rfl, Nat.add_zero, Nat.add_zero]
      refine ⟨a1, fun e k hk hd => ?_⟩
      by_cases ek : k = n
      · subst ek; rw [hD] at hd; cases hd
      · exact a2 e k (by omega) hd
    | false =>
      have := h1 n (by omega) hD
      rw [if_neg Bool.false_ne_true, Nat.mul_add, Nat.mul_one]
      refine ⟨by omega, fun e k hk hd => ?_⟩
      by_cases ek : k = n
      · subst ek; omega
      · exact a2 (by omega) k (by omega) hd
/-- At the end as much is left at each place that is not done as all weights are. -/
theorem fin_left {n S : Nat} {f : Nat → Nat} (hS : tot f n = S) {k : Nat} (hk : k < n) (hd : (fin n S f).D k = false) : (fin n S f).L k = S := by
  have I := fin_inv n S f hS
  have hlf : ∀ k, (fin n S f).D k = false → lf (fin n S f) k = (fin n S f).L k := fun k h => by unfold lf; rw [h]; rfl
  have hlt : ∀ k, k < n → (fin n S f).D k = true → lf (fin n S f) k = 0 := fun k _ h => by unfold lf; rw [h]; rfl
  rcases fin_stop n S f with c | c
  · have := fl_none (p := lowp S (fin n S f).L (fin n S f).D) (k := n) c
    have h2 := (tot_same' (g := lf (fin n S f)) (D := (fin n S f).D) (S := S) (n := n) (fun k hk hd => by
      have h3 := this k hk
      unfold lowp at h3
      rw [hd] at h3
      simp at h3
      rw [hlf k hd]; exact h3) hlt).2 I.sum k hk hd
    rw [← hlf k hd]; exact h2
  · have := fl_none (p := highp S (fin n S f).L (fin n S f).D) (k := n) c
    have h2 := (tot_same (g := lf (fin n S f)) (D := (fin n S f).D) (S := S) (n := n) (fun k hk hd => by
      have h3 := this k hk
      unfold highp at h3
      rw [hd] at h3
      simp at h3
      rw [hlf k hd]; exact h3) hlt).2 I.sum k hk hd
    rw [← hlf k hd]; exact h2
theorem fin_two {n S : Nat} {f : Nat → Nat} (hS : tot f n = S) (h0 : 0 < S) {k : Nat} (hk : k < n) :
    (fin n S f).V k ≤ S ∧ (fin n S f).T k < n ∧ ((fin n S f).V k = S → (fin n S f).T k = k) ∧ (f k = 0 → (fin n S f).V k = 0) := by
  have I := fin_inv n S f hS
  cases hd : (fin n S f).D k with
  | true =>
    obtain ⟨a1, a2, a3⟩ := I.done k hk hd
    exact ⟨by omega, a3, fun h => by omega, fun h => by rw [a1]; exact I.zero k h⟩
  | false =>
    obtain ⟨a1, a2⟩ := I.free k hd
    refine ⟨by omega, by omega, fun _ => a2, fun h => ?_⟩
    have := fin_left hS hk hd
    rw [I.zero k h] at this
    omega
end Go.Proofs.Ytambhciacmkdoaa
