/- What a pool of two pools is: plain. No condition. -/
import Derived.Test.YtkebahdapkjacaaDel
set_option linter.unusedSimpArgs false
set_option linter.unusedVariables false
namespace Go.Proofs.Ytkebahdapkjacaa
/-- How many are left of each, who is left of each, who is taken. -/
structure St where
  l0 : Nat
  l1 : Nat
  h0 : List Int
  h1 : List Int
  o : List Int
def pstep (s : St) (d w : Int) : Option St :=
  if d < 0 ∨ (s.l0 : Int) + s.l1 ≤ d then none
  else if (s.l0 : Int) ≤ d then
    if w < 0 ∨ (s.h1.length : Int) ≤ w then none
    else some ⟨s.l0, s.l1 - 1, s.h0, s.h1.eraseIdx w.toNat, s.o ++ [s.h1.getD w.toNat 0]⟩
  else
    if w < 0 ∨ (s.h0.length : Int) ≤ w then none
    else some ⟨s.l0 - 1, s.l1, s.h0.eraseIdx w.toNat, s.h1, s.o ++ [s.h0.getD w.toNat 0]⟩
def prun (s : St) (wh wo : List Int) : Nat → Option St
  | 0 => some s
  | k + 1 => (prun s wh wo k).bind fun t => pstep t (wh.getD k 0) (wo.getD k 0)
theorem prun_none {s : St} {wh wo : List Int} {k : Nat} (h : prun s wh wo k = none) : ∀ n, k ≤ n → prun s wh wo n = none
  | 0, hn => by obtain rfl : k = 0 := by omega
                exact h
  | n + 1, hn => by
    rcases Nat.lt_or_ge k (n + 1) with hj | hj
    · show (prun s wh wo n).bind _ = none
      rw [prun_none h n (by omega)]; rfl
    · obtain rfl : k = n + 1 := by omega
      exact h
theorem prun_succ {s t : St} {wh wo : List Int} {k : Nat} (h : prun s wh wo k = some t) : prun s wh wo (k + 1) = pstep t (wh.getD k 0) (wo.getD k 0) := by
  show (prun s wh wo k).bind _ = _
  rw [h]; rfl
/-- What is kept over a run: all who are there, and how many are left. -/
structure Kept (s t : St) (k : Nat) : Prop where
  len : t.o.length = k
  cnt : ∀ y, t.o.count y + t.h0.count y + t.h1.count y = s.h0.count y + s.h1.count y
  left : t.l0 + t.l1 + k = s.l0 + s.l1
  m0 : t.l0 ≤ s.l0
  m1 : t.l1 ≤ s.l1
  n0 : t.h0.length ≤ s.h0.length
  n1 : t.h1.length ≤ s.h1.length
theorem pstep_kept {s t u : St} {d w : Int} {k : Nat} (h : Kept s t k) (hp : pstep t d w = some u) : Kept s u (k + 1) := by
  unfold pstep at hp
  by_cases h1 : d < 0 ∨ (t.l0 : Int) + t.l1 ≤ d
  · rw [if_pos h1] at hp; cases hp
  · rw [if_neg h1] at hp
    by_cases h2 : (t.l0 : Int) ≤ d
    · rw [if_pos h2] at hp
      by_cases h3 : w < 0 ∨ (t.h1.length : Int) ≤ w
      · rw [if_pos h3] at hp; cases hp
      · rw [if_neg h3] at hp
        cases hp
        refine ⟨by simp [h.len], fun y => ?_, ?_, h.m0, ?_, h.n0, Nat.le_trans (List.length_eraseIdx_le _ _) h.n1⟩
        · have e := count_erase t.h1 w.toNat (by omega) y
          have := h.cnt y
          show (t.o ++ [t.h1.getD w.toNat 0]).count y + t.h0.count y + (t.h1.eraseIdx w.toNat).count y = _
          rw [List.count_append]
          omega
        · have := h.left
          show t.l0 + (t.l1 - 1) + (k + 1) = _
          omega
        · have := h.m1
          show t.l1 - 1 ≤ _
          omega
    · rw [if_neg h2] at hp
      by_cases h3 : w < 0 ∨ (t.h0.length : Int) ≤ w
      · rw [if_pos h3] at hp; cases hp
      · rw [if_neg h3] at hp
        cases hp
        refine ⟨by simp [h.len], fun y => ?_, ?_, ?_, h.m1, Nat.le_trans (List.length_eraseIdx_le _ _) h.n0, h.n1⟩
        · have e := count_erase t.h0 w.toNat (by omega) y
          have := h.cnt y
          show (t.o ++ [t.h0.getD w.toNat 0]).count y + (t.h0.eraseIdx w.toNat).count y + t.h1.count y = _
          rw [List.count_append]
          omega
        · have := h.left
          show t.l0 - 1 + t.l1 + (k + 1) = _
          omega
        · have := h.m0
          show t.l0 - 1 ≤ _
          omega
theorem prun_kept {s : St} {wh wo : List Int} (ho : s.o = []) : ∀ k t, prun s wh wo k = some t → Kept s t k
  | 0, t, h => by
    cases h
    exact ⟨by rw [ho]; rfl, fun y => by rw [ho]; simp, by omega, Nat.le_refl _, Nat.le_refl _, Nat.le_refl _, Nat.le_refl _⟩
  | k + 1, t, h => by
    cases hk : prun s wh wo k with
    | none => rw [prun_none hk (k + 1) (by omega)] at h; cases h
    | some u =>
      rw [prun_succ hk] at h
      exact pstep_kept (prun_kept ho k u hk) h
/-- How many are taken. -/
def pN (ra ca cb : Int) : Nat := (min ra (ca + cb)).toNat
def st0 (ca cb : Int) (ha hb : List Int) : St := ⟨ca.toNat, cb.toNat, ha, hb, []⟩
/-- What join.Pools answers. -/
def pErr (ra ca rb cb : Int) (ha hb wh wo : List Int) : Int :=
  if ¬ (RightP ra ca ha.length ∧ RightP rb cb hb.length ∧ ra = rb) then 1
  else if 1099511627776 - cb < ca then 4
  else if wh.length < pN ra ca cb ∨ wo.length < pN ra ca cb then 7
  else match prun (st0 ca cb ha hb) wh wo (pN ra ca cb) with
    | none => 2
    | some _ => 0
end Go.Proofs.Ytkebahdapkjacaa
