/- Of few all are kept: plain. No condition. -/
import Derived.Test.YthaiopgmncnekaaGreatDoorQuAll
import Derived.Test.YthaiopgmncnekaaGreatDoorSorted
set_option linter.unusedSimpArgs false
set_option linter.unusedVariables false
set_option maxRecDepth 20000
namespace Go.Proofs.YthaiopgmncnekaaGreatDoor.Qu
def FewP (ys : List Int) (l : List Rk) : Prop := (∀ r ∈ l, r.Gap = 1 ∧ r.More = 0) ∧ (l.map Rk.N).Perm ys
theorem few_cnt : ∀ {l : List Rk}, (∀ r ∈ l, r.Gap = 1 ∧ r.More = 0) → cnt l = l.length
  | [], _ => rfl
  | r :: l, h => by
    have h1 := h r List.mem_cons_self
    have h2 := few_cnt (l := l) fun s hs => h s (List.mem_cons_of_mem _ hs)
    simp only [cnt, List.length_cons]; omega
theorem sqF_few {most : Int} (hm : most ≤ 1) : ∀ (k : Nat) (l : List Rk), (∀ r ∈ l, r.Gap = 1 ∧ r.More = 0) → k + 1 < l.length ∨ k = 0 → sqF most k l = l
  | 0, l, _, _ => rfl
  | k + 1, l, h, hk => by
    have hk' : k + 1 + 1 < l.length := by omega
    have h1 := h _ (getD_mem l (k + 1) (by omega))
    have h2 := h _ (getD_mem l (k + 1 + 1) hk')
    unfold sqF sqS
    rw [if_neg (by unfold big; omega)]
    exact sqF_few hm k l h (by omega)
theorem few_add {p : Int} {ys : List Int} {l : List Rk} (h : FewP ys l) (x : Int) (hp : (ys.length : Int) + 1 < p) : FewP (ys ++ [x]) (addL p l x) := by
  obtain ⟨h1, h2⟩ := h
  have hM : moreF l (atF l x) = 0 := by
    unfold moreF
    split
    · rename_i hh
      have := h1 _ (getD_mem l (atF l x) hh.2)
      omega
    · rfl
  have ha : ∀ r ∈ addIn l x, r.Gap = 1 ∧ r.More = 0 := by
    unfold addIn
    exact insL_all (P := fun r => r.Gap = 1 ∧ r.More = 0) l _ _ h1 ⟨rfl, hM⟩
  have hlen : (addIn l x).length = l.length + 1 := insL_len l _ _ (atF_le l x)
  have hll : l.length = ys.length := by have := h2.length_eq; simpa using this
  have hc : cnt (addIn l x) = ys.length + 1 := by rw [few_cnt ha, hlen, hll]; simp
  have hmost : 2 * cnt (addIn l x) / p ≤ 1 := by
    rw [hc]
    have : 2 * ((ys.length : Int) + 1) < 2 * p := by omega
    have h5 : 2 * ((ys.length : Int) + 1) / p < 2 := Int.ediv_lt_of_lt_mul (by omega) (by omega)
    omega
  have he : addL p l x = addIn l x := by
    unfold addL sqz
    exact sqF_few hmost _ _ ha (by omega)
  rw [he]
  refine ⟨ha, ?_⟩
  unfold addIn insL
  rw [List.map_append, List.map_cons]
  have e1 : (l.take (atF l x)).map Rk.N ++ (l.drop (atF l x)).map Rk.N = l.map Rk.N := by rw [← List.map_append, List.take_append_drop]
  refine (List.perm_middle).trans ?_
  rw [e1]
  exact (List.Perm.cons x h2).trans (List.perm_append_singleton x ys).symm
theorem few_all {p : Int} : ∀ (zs ys : List Int) (l l' : List Rk), FewP ys l → ((ys ++ zs).length : Int) < p → allF p l zs = some l' → FewP (ys ++ zs) l'
  | [], ys, l, l', h, _, ha => by
    rw [List.append_nil]
    simp only [allF] at ha
    cases ha
    exact h
  | x :: r, ys, l, l', h, hp, ha => by
    simp only [allF] at ha
    split at ha
    · cases ha
    · have h1 := few_add h x (p := p) (by simp only [List.length_append, List.length_cons] at hp; omega)
      have h2 := few_all r (ys ++ [x]) _ l' h1 (by simpa using hp) ha
      simpa using h2
/-- What holds of few. -/
theorem few_end {p : Int} {zs : List Int} {l : List Rk} (ha : allF p [] zs = some l) (hp : (zs.length : Int) < p) (hs : Srt l) : (∀ r ∈ l, r.Gap = 1 ∧ r.More = 0) ∧ l.map Rk.N = srt zs := by
  obtain ⟨h1, h2⟩ := few_all zs [] [] l ⟨fun r hr => by (cases hr), List.Perm.refl _⟩ (by simpa using hp) ha
  exact ⟨h1, srt_unique (by simpa using h2) hs⟩
end Go.Proofs.YthaiopgmncnekaaGreatDoor.Qu
