/- The level, and what it says: plain. No condition. -/
import Derived.Test.YtkmjjckpolopgaaSorted
set_option linter.unusedSimpArgs false
set_option linter.unusedVariables false
namespace Go.Proofs.Ytkmjjckpolopgaa
def sm : List Int → Int
  | [] => 0
  | x :: l => x + sm l
theorem sm_app : ∀ l m : List Int, sm (l ++ m) = sm l + sm m
  | [], m => by simp [sm]
  | x :: l, m => by simp only [List.cons_append, sm, sm_app l m]; omega
theorem take_s (l : List Int) (k : Nat) (h : k < l.length) : l.take (k + 1) = l.take k ++ [l.getD k 0] := by
  rw [List.take_add_one, List.getElem?_eq_getElem h, List.getD_eq_getElem?_getD, List.getElem?_eq_getElem h]; rfl
theorem drop_s (l : List Int) (k : Nat) (h : k < l.length) : l.drop k = l.getD k 0 :: l.drop (k + 1) := by
  rw [List.drop_eq_getElem_cons h, List.getD_eq_getElem?_getD, List.getElem?_eq_getElem h]; rfl
theorem sm_take (l : List Int) (k : Nat) (h : k < l.length) : sm (l.take (k + 1)) = sm (l.take k) + l.getD k 0 := by
  rw [take_s l k h, sm_app]; simp [sm]
theorem sm_perm {l k : List Int} (h : l.Perm k) : sm l = sm k := by
  induction h with
  | nil => rfl
  | cons x _ ih => simp only [sm, ih]
  | swap x y l => simp only [sm]; omega
  | trans _ _ h1 h2 => exact h1.trans h2
theorem getD_memI (l : List Int) (k : Nat) (h : k < l.length) : l.getD k 0 ∈ l := by
  rw [List.getD_eq_getElem?_getD, List.getElem?_eq_getElem h]; exact List.getElem_mem h
/-- Weights that may be. -/
def Wts (l : List Int) : Prop := ∀ x ∈ l, 1 ≤ x ∧ x ≤ 1048576
instance (l : List Int) : Decidable (Wts l) := inferInstanceAs (Decidable (∀ x ∈ l, 1 ≤ x ∧ x ≤ 1048576))
def OkD (l : List Int) (keep : Int) : Prop := l.length ≤ 400 ∧ 1 ≤ keep ∧ keep ≤ 400 ∧ Wts l
instance (l : List Int) (keep : Int) : Decidable (OkD l keep) := inferInstanceAs (Decidable (_ ∧ _))
theorem Wts.bd : ∀ {l : List Int}, Wts l → (l.length : Int) ≤ sm l ∧ sm l ≤ (l.length : Int) * 1048576
  | [], _ => by simp [sm]
  | x :: l, h => by
    have h1 := h x List.mem_cons_self
    have ih := Wts.bd (l := l) fun y hy => h y (List.mem_cons_of_mem _ hy)
    simp only [sm, List.length_cons]
    omega
theorem Wts.take {l : List Int} (h : Wts l) (k : Nat) : Wts (l.take k) := fun x hx => h x (List.mem_of_mem_take hx)
theorem Wts.le_sm : ∀ {l : List Int}, Wts l → ∀ x ∈ l, x ≤ sm l
  | [], _, x, hx => by cases hx
  | y :: l, h, x, hx => by
    have h1 := h y List.mem_cons_self
    have hl : Wts l := fun y hy => h y (List.mem_cons_of_mem _ hy)
    have hb := hl.bd
    simp only [sm]
    rcases List.mem_cons.1 hx with rfl | hx
    · omega
    · have := hl.le_sm x hx; omega
theorem srt_wts {zs : List Int} (h : Wts zs) : Wts (srt zs) := fun x hx => h x ((srt_perm zs).mem_iff.1 hx)
/-- From the top: those above their level. -/
def peel (l : List Int) : Nat → Int → Int × Int
  | 0, d => (0, d)
  | m + 1, d => if 1 < d ∧ sm (l.take (m + 1)) < l.getD m 0 * d then peel l m (d - 1) else (sm (l.take (m + 1)), d)
def lev (ws : List Int) (keep : Int) : Int × Int := if (ws.length : Int) ≤ keep then (0, 0) else peel (srt ws) ws.length keep
/-- Each as far as the level, together. -/
def mn (N D : Int) : List Int → Int
  | [] => 0
  | x :: l => min (x * D) N + mn N D l
theorem mn_app (N D : Int) : ∀ l m : List Int, mn N D (l ++ m) = mn N D l + mn N D m
  | [], m => by simp [mn]
  | x :: l, m => by simp only [List.cons_append, mn, mn_app N D l m]; omega
theorem mn_perm (N D : Int) {l k : List Int} (h : l.Perm k) : mn N D l = mn N D k := by
  induction h with
  | nil => rfl
  | cons x _ ih => simp only [mn, ih]
  | swap x y l => simp only [mn]; omega
  | trans _ _ h1 h2 => exact h1.trans h2
theorem mn_low (N D : Int) : ∀ l : List Int, (∀ x ∈ l, x * D ≤ N) → mn N D l = sm l * D
  | [], _ => by simp [mn, sm]
  | x :: l, h => by
    have h1 := h x List.mem_cons_self
    have ih := mn_low N D l fun y hy => h y (List.mem_cons_of_mem _ hy)
    simp only [mn, sm, ih, Int.add_mul]
    omega
theorem mn_high (N D : Int) : ∀ l : List Int, (∀ x ∈ l, N ≤ x * D) → mn N D l = l.length * N
  | [], _ => by simp [mn]
  | x :: l, h => by
    have h1 := h x List.mem_cons_self
    have ih := mn_high N D l fun y hy => h y (List.mem_cons_of_mem _ hy)
    simp only [mn, ih, List.length_cons]
    have e : ((l.length + 1 : Nat) : Int) = (l.length : Int) + 1 := by omega
    rw [e, Int.add_mul]
    omega
theorem up_take {l : List Int} (hs : l.Pairwise (· ≤ ·)) (m : Nat) (h : m < l.length) : (∀ x ∈ l.take (m + 1), x ≤ l.getD m 0) ∧ (∀ x ∈ l.drop (m + 1), l.getD m 0 ≤ x) := by
  have e : l = l.take m ++ l.getD m 0 :: l.drop (m + 1) := by rw [← drop_s l m h, List.take_append_drop]
  rw [e] at hs
  have h1 := List.pairwise_append.1 hs
  have h2 := List.pairwise_cons.1 h1.2.1
  refine ⟨fun x hx => ?_, fun x hx => h2.1 x hx⟩
  rw [take_s l m h] at hx
  rcases List.mem_append.1 hx with hx | hx
  · exact h1.2.2 x hx _ List.mem_cons_self
  · rw [List.mem_singleton.1 hx]; exact Int.le_refl _
theorem peel_law {l : List Int} (hs : l.Pairwise (· ≤ ·)) (hw : Wts l) : ∀ (m : Nat) (d : Int), m ≤ l.length → 1 ≤ d → d ≤ m → (∀ x ∈ l.drop m, sm (l.take m) ≤ x * d) →
    1 ≤ (peel l m d).1 ∧ (peel l m d).1 ≤ sm l ∧ 1 ≤ (peel l m d).2 ∧ (peel l m d).2 ≤ d ∧ mn (peel l m d).1 (peel l m d).2 l = (d + (l.length - m)) * (peel l m d).1
  | 0, d, hm, h1, h2, h3 => by omega
  | m + 1, d, hm, h1, h2, h3 => by
    have hml : m < l.length := by omega
    have hst := sm_take l m hml
    have hup := up_take hs m hml
    have hwb := (hw.take (m + 1)).bd
    have hel := hw _ (getD_memI l m hml)
    have hsum : sm l = sm (l.take (m + 1)) + sm (l.drop (m + 1)) := by rw [← sm_app, List.take_append_drop]
    have hdrop : 0 ≤ sm (l.drop (m + 1)) := by
      have := Wts.bd (l := l.drop (m + 1)) fun x hx => hw x (List.mem_of_mem_drop hx)
      omega
    rw [List.length_take, Nat.min_eq_left hm] at hwb
    unfold peel
    split
    · rename_i hc
      have := peel_law hs hw m (d - 1) (by omega) (by omega) (by omega) (fun x hx => ?_)
      · obtain ⟨a, b, c, e, f⟩ := this
        refine ⟨a, b, c, by omega, ?_⟩
        rw [f, show d - 1 + ((l.length : Int) - (m : Int)) = d + ((l.length : Int) - ((m + 1 : Nat) : Int)) by omega]
      · have hge : l.getD m 0 ≤ x := by
          rw [drop_s l m hml] at hx
          rcases List.mem_cons.1 hx with rfl | hx
          · exact Int.le_refl _
          · exact hup.2 x hx
        have e1 : l.getD m 0 * (d - 1) ≤ x * (d - 1) := Int.mul_le_mul_of_nonneg_right hge (by omega)
        have e2 : l.getD m 0 * (d - 1) = l.getD m 0 * d - l.getD m 0 := by grind
        omega
    · rename_i hc
      have hlow : ∀ x ∈ l.take (m + 1), x * d ≤ sm (l.take (m + 1)) := fun x hx => by
        by_cases hd : d = 1
        · rw [hd, Int.mul_one]; exact (hw.take _).le_sm x hx
        · have e1 : x * d ≤ l.getD m 0 * d := Int.mul_le_mul_of_nonneg_right (hup.1 x hx) (by omega)
          have := fun h => hc ⟨by omega, h⟩
          omega
      refine ⟨by simp only; omega, by simp only; omega, h1, Int.le_refl _, ?_⟩
      simp only
      have e := mn_app (sm (l.take (m + 1))) d (l.take (m + 1)) (l.drop (m + 1))
      rw [List.take_append_drop, mn_low _ _ _ hlow, mn_high _ _ _ h3] at e
      rw [e, List.length_drop]
      have e2 : ((l.length - (m + 1) : Nat) : Int) = (l.length : Int) - ((m + 1 : Nat) : Int) := by omega
      rw [e2]
      grind
/-- What the level says. -/
theorem lev_law {ws : List Int} {keep : Int} (h : OkD ws keep) (hk : keep < ws.length) :
    1 ≤ (lev ws keep).1 ∧ (lev ws keep).1 ≤ 419430400 ∧ 1 ≤ (lev ws keep).2 ∧ (lev ws keep).2 ≤ keep ∧ mn (lev ws keep).1 (lev ws keep).2 ws = keep * (lev ws keep).1 := by
  obtain ⟨h1, h2, h3, h4⟩ := h
  unfold lev
  rw [if_neg (by omega)]
  have hl := srt_len ws
  obtain ⟨a, b, c, d, e⟩ := peel_law (srt_up ws) (srt_wts h4) ws.length keep (by omega) h2 (by omega) (fun x hx => by rw [← hl, List.drop_length] at hx; cases hx)
  have hb := (srt_wts h4).bd
  rw [hl] at hb e
  refine ⟨a, by omega, c, d, ?_⟩
  rw [← mn_perm _ _ (srt_perm ws), e]
  rw [Int.sub_self, Int.add_zero]
theorem lev_few {ws : List Int} {keep : Int} (hk : (ws.length : Int) ≤ keep) : lev ws keep = (0, 0) := by
  unfold lev; rw [if_pos hk]
theorem lev_perm {ws vs : List Int} (h : ws.Perm vs) (keep : Int) : lev ws keep = lev vs keep := by
  unfold lev
  rw [h.length_eq, show srt ws = srt vs from srt_unique ((srt_perm ws).trans h) (srt_up ws)]
end Go.Proofs.Ytkmjjckpolopgaa
