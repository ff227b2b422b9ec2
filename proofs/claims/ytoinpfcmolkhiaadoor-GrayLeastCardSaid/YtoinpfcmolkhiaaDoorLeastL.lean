/- Least rotations: plain laws. No condition. -/
import Derived.Test.YtoinpfcmolkhiaaDoorLeast
set_option linter.unusedSimpArgs false
set_option linter.unusedVariables false
namespace Go.Proofs.YtoinpfcmolkhiaaDoor
open Go.RowKit
theorem ltb_iff (f g : Nat → Bool) : ∀ n i, ltb f g i n = true ↔ ∃ d, i ≤ d ∧ d < i + n ∧ (∀ e, i ≤ e → e < d → f e = g e) ∧ f d = false ∧ g d = true
  | 0, i => by
    constructor
    · intro h; cases h
    · rintro ⟨d, h1, h2, _⟩; omega
  | n + 1, i => by
    rw [show ltb f g i (n + 1) = if f i = g i then ltb f g (i + 1) n else g i from rfl]
    by_cases h : f i = g i
    · rw [if_pos h, ltb_iff f g n (i + 1)]
      constructor
      · rintro ⟨d, h1, h2, h3, h4, h5⟩
        refine ⟨d, by omega, by omega, fun e he1 he2 => ?_, h4, h5⟩
        by_cases h6 : e = i
        · rw [h6]; exact h
        · exact h3 e (by omega) he2
      · rintro ⟨d, h1, h2, h3, h4, h5⟩
        have hdi : d ≠ i := by rintro rfl; rw [h4, h5] at h; cases h
        exact ⟨d, by omega, by omega, fun e he1 he2 => h3 e (by omega) he2, h4, h5⟩
    · rw [if_neg h]
      constructor
      · intro hg
        refine ⟨i, Nat.le_refl _, by omega, fun e h1 h2 => by omega, ?_, hg⟩
        cases hf : f i
        · rfl
        · exact absurd (hf.trans hg.symm) h
      · rintro ⟨d, h1, h2, h3, h4, h5⟩
        by_cases hdi : d = i
        · rw [← hdi]; exact h5
        · exact absurd (h3 i (Nat.le_refl _) (by omega)) h
theorem ltb_trans {f g h : Nat → Bool} {n : Nat} (h1 : ltb f g 0 n = true) (h2 : ltb g h 0 n = true) : ltb f h 0 n = true := by
  rw [ltb_iff] at h1 h2 ⊢
  obtain ⟨d, _, hd, hde, hd1, hd2⟩ := h1
  obtain ⟨e, _, he, hee, he1, he2⟩ := h2
  rcases Nat.lt_trichotomy d e with h | rfl | h
  · exact ⟨d, Nat.zero_le _, hd, fun x h1 h2 => (hde x h1 h2).trans (hee x h1 (by omega)), hd1, by rw [← hee d (Nat.zero_le _) h]; exact hd2⟩
  · rw [hd2] at he1; cases he1
  · exact ⟨e, Nat.zero_le _, he, fun x h1 h2 => (hde x h1 (by omega)).trans (hee x h1 h2), by rw [hde e (Nat.zero_le _) h]; exact he1, he2⟩
theorem ltb_tri (f g : Nat → Bool) : ∀ n i, ltb f g i n = false → ltb g f i n = false → ∀ d, i ≤ d → d < i + n → f d = g d
  | 0, i, _, _, d, h1, h2 => by omega
  | n + 1, i, ha, hb, d, h1, h2 => by
    rw [show ltb f g i (n + 1) = if f i = g i then ltb f g (i + 1) n else g i from rfl] at ha
    rw [show ltb g f i (n + 1) = if g i = f i then ltb g f (i + 1) n else f i from rfl] at hb
    by_cases h : f i = g i
    · rw [if_pos h] at ha
      rw [if_pos h.symm] at hb
      by_cases hdi : d = i
      · rw [hdi]; exact h
      · exact ltb_tri f g n (i + 1) ha hb d (by omega) (by omega)
    · rw [if_neg h] at ha
      rw [if_neg (fun e => h e.symm)] at hb
      exact absurd (hb.trans ha.symm) h
theorem ltb_congr {f f' g g' : Nat → Bool} : ∀ n i, (∀ d, i ≤ d → d < i + n → f d = f' d) → (∀ d, i ≤ d → d < i + n → g d = g' d) → ltb f g i n = ltb f' g' i n
  | 0, i, _, _ => rfl
  | n + 1, i, h1, h2 => by
    show (if f i = g i then ltb f g (i + 1) n else g i) = (if f' i = g' i then ltb f' g' (i + 1) n else g' i)
    rw [h1 i (Nat.le_refl _) (by omega), h2 i (Nat.le_refl _) (by omega), ltb_congr n (i + 1) (fun d a b => h1 d (by omega) (by omega)) (fun d a b => h2 d (by omega) (by omega))]
/-- None up to there is ahead of the least one. -/
theorem lst_min (zs : List Bool) : ∀ k j, j ≤ k → ltb (rotf zs j) (rotf zs (lst zs k)) 0 zs.length = false
  | 0, j, h => by
    obtain rfl : j = 0 := by omega
    show ltb (rotf zs 0) (rotf zs 0) 0 zs.length = false
    cases hh : ltb (rotf zs 0) (rotf zs 0) 0 zs.length
    · rfl
    · rw [ltb_iff] at hh
      obtain ⟨d, _, _, _, h1, h2⟩ := hh
      rw [h1] at h2; cases h2
  | k + 1, j, h => by
    have ih := lst_min zs k
    unfold lst
    by_cases hc : ltb (rotf zs (k + 1)) (rotf zs (lst zs k)) 0 zs.length = true
    · rw [if_pos hc]
      cases hh : ltb (rotf zs j) (rotf zs (k + 1)) 0 zs.length
      · rfl
      · by_cases hj : j = k + 1
        · subst hj
          rw [ltb_iff] at hh
          obtain ⟨d, _, _, _, h1, h2⟩ := hh
          rw [h1] at h2; cases h2
        · have := ih j (by omega)
          rw [ltb_trans hh hc] at this
          cases this
    · rw [if_neg hc]
      by_cases hj : j = k + 1
      · subst hj; simpa using hc
      · exact ih j (by omega)
/-- A row, turned. -/
def turn (zs : List Bool) (k : Nat) : List Bool := zs.drop k ++ zs.take k
theorem turn_len (zs : List Bool) (k : Nat) (hk : k ≤ zs.length) : (turn zs k).length = zs.length := by
  unfold turn; rw [List.length_append, List.length_drop, List.length_take]; omega
theorem turn_get (zs : List Bool) (k i : Nat) (hk : k < zs.length) (hi : i < zs.length) : (turn zs k).getD i false = rotf zs k i := by
  unfold turn rotf
  simp only [List.getD_eq_getElem?_getD]
  by_cases h : i < zs.length - k
  · rw [List.getElem?_append_left (by rw [List.length_drop]; exact h), List.getElem?_drop, Nat.mod_eq_of_lt (by omega)]
  · rw [List.getElem?_append_right (by rw [List.length_drop]; omega), List.length_drop, List.getElem?_take, if_pos (by omega)]
    have : (k + i) % zs.length = i - (zs.length - k) := by
      rw [Nat.mod_eq_sub_mod (by omega), Nat.mod_eq_of_lt (by omega)]; omega
    rw [this]
theorem turn_turn (zs : List Bool) (k s i : Nat) (hk : k < zs.length) (hi : i < zs.length) : rotf (turn zs k) s i = rotf zs ((k + s) % zs.length) i := by
  have hn : 0 < zs.length := by omega
  unfold rotf
  rw [turn_len zs k (by omega)]
  have h := turn_get zs k ((s + i) % zs.length) hk (Nat.mod_lt _ hn)
  rw [h]
  unfold rotf
  congr 1
  rw [Nat.add_mod_mod, Nat.mod_add_mod, Nat.add_assoc]
/-- All turns of a row have the same least turn. -/
theorem least_turn (zs : List Bool) (k : Nat) (hk : k < zs.length) :
    turn zs (lst zs (zs.length - 1)) = turn (turn zs k) (lst (turn zs k) (zs.length - 1)) := by
  have hn : 0 < zs.length := by omega
  have hl := turn_len zs k (by omega)
  have ha := lst_le zs (zs.length - 1)
  have hb := lst_le (turn zs k) (zs.length - 1)
  have hm1 := lst_min zs (zs.length - 1)
  have hm2 := lst_min (turn zs k) (zs.length - 1)
  rw [hl] at hm2
  generalize lst zs (zs.length - 1) = a at *
  generalize lst (turn zs k) (zs.length - 1) = b at *
  have key : ∀ d, d < zs.length → rotf zs a d = rotf (turn zs k) b d := by
    intro d hd
    refine ltb_tri _ _ zs.length 0 ?_ ?_ d (Nat.zero_le _) (by omega)
    · have h1 := hm2 ((a + zs.length - k) % zs.length) (by have := Nat.mod_lt (a + zs.length - k) hn; omega)
      rw [← h1]
      refine ltb_congr _ _ (fun e _ he => ?_) (fun e _ _ => rfl)
      rw [turn_turn zs k _ e hk (by omega)]
      have : (k + (a + zs.length - k) % zs.length) % zs.length = a := by
        rw [Nat.add_mod_mod, show k + (a + zs.length - k) = a + zs.length by omega, Nat.add_mod_right, Nat.mod_eq_of_lt (by omega)]
      rw [this]
    · have h1 := hm1 ((k + b) % zs.length) (by have := Nat.mod_lt (k + b) hn; omega)
      rw [← h1]
      refine ltb_congr _ _ (fun e _ he => ?_) (fun e _ _ => rfl)
      exact turn_turn zs k b e hk (by omega)
  refine list_extB (n := zs.length) (turn_len zs a (by omega)) (by rw [turn_len _ _ (by rw [hl]; omega), hl]) fun d hd => ?_
  rw [turn_get zs a d (by omega) hd, turn_get (turn zs k) b d (by rw [hl]; omega) (by rw [hl]; exact hd)]
  exact key d hd
theorem least_first (zs : List Bool) (hn : 0 < zs.length) : ltb (fun i => zs.getD i false) (fun i => (turn zs (lst zs (zs.length - 1))).getD i false) 0 zs.length = false := by
  have h := lst_min zs (zs.length - 1) 0 (Nat.zero_le _)
  have ha := lst_le zs (zs.length - 1)
  refine Eq.trans (ltb_congr _ _ (fun d _ hd => ?_) (fun d _ hd => ?_)) h
  · show _ = zs.getD ((0 + d) % zs.length) false
    rw [Nat.zero_add, Nat.mod_eq_of_lt (by omega)]
  · exact turn_get zs _ d (by omega) (by omega)
end Go.Proofs.YtoinpfcmolkhiaaDoor
