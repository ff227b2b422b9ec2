/- What a pool keeps of all that come: plain. No condition. -/
import Derived.Test.YtimknmofcnhbpaaAdd
set_option linter.unusedSimpArgs false
set_option linter.unusedVariables false
namespace Go.Proofs.Ytimknmofcnhbpaa
/-- Who is kept of the first k. -/
def allL (r : Int) (l ds : List Int) : Nat → List Int
  | 0 => []
  | k + 1 => addL r (allL r l ds k) (l.getD k 0) (ds.getD k 0)
/-- What is wrong with the first k. -/
def allE (ds : List Int) : Nat → Int
  | 0 => 0
  | k + 1 => if allE ds k = 0 then addE (k : Int) (ds.getD k 0) else allE ds k
theorem addL_len {r : Int} {zs : List Int} {x d : Int} : (addL r zs x d).length = if (zs.length : Int) < r then zs.length + 1 else zs.length := by
  unfold addL
  split
  · simp
  · split <;> simp
theorem allL_len {r : Int} (h : 1 ≤ r) (l ds : List Int) : ∀ k : Nat, ((allL r l ds k).length : Int) = min r k
  | 0 => by simp [allL]; omega
  | k + 1 => by
    have ih := allL_len h l ds k
    unfold allL
    rw [addL_len]
    split <;> omega
theorem allE_le {ds : List Int} {k : Nat} (h : allE ds (k + 1) = 0) : allE ds k = 0 ∧ addE (k : Int) (ds.getD k 0) = 0 := by
  unfold allE at h
  by_cases h0 : allE ds k = 0
  · rw [if_pos h0] at h; exact ⟨h0, h⟩
  · rw [if_neg h0] at h; exact absurd h h0
theorem allE_all {ds : List Int} : ∀ {k : Nat}, allE ds k = 0 → ∀ j, j < k → addE (j : Int) (ds.getD j 0) = 0 ∧ allE ds j = 0
  | 0, _, j, hj => absurd hj (Nat.not_lt_zero j)
  | k + 1, h, j, hj => by
    obtain ⟨h1, h2⟩ := allE_le h
    rcases Nat.lt_or_ge j k with hj' | hj'
    · exact allE_all h1 j hj'
    · obtain rfl : j = k := by omega
      exact ⟨h2, h1⟩
theorem allE_stays {ds : List Int} {k : Nat} (h : allE ds k ≠ 0) : ∀ n, k ≤ n → allE ds n = allE ds k
  | 0, hn => by obtain rfl : k = 0 := by omega
                rfl
  | n + 1, hn => by
    rcases Nat.lt_or_ge k (n + 1) with hj | hj
    · have ih := allE_stays h n (by omega)
      show (if allE ds n = 0 then _ else _) = _
      rw [ih, if_neg h]
    · obtain rfl : k = n + 1 := by omega
      rfl
theorem allE_first {ds : List Int} {k n : Nat} (h0 : allE ds k = 0) (h : addE (k : Int) (ds.getD k 0) ≠ 0) (hn : k < n) : allE ds n = addE (k : Int) (ds.getD k 0) := by
  have h1 : allE ds (k + 1) = addE (k : Int) (ds.getD k 0) := by
    show (if allE ds k = 0 then _ else _) = _
    rw [if_pos h0]
  rw [allE_stays (by rw [h1]; exact h) n hn, h1]
theorem allL_few {r : Int} {l ds : List Int} : ∀ k : Nat, (k : Int) ≤ r → k ≤ l.length → allL r l ds k = l.take k
  | 0, _, _ => rfl
  | k + 1, h, hk => by
    have ih := allL_few (l := l) (ds := ds) (r := r) k (by omega) (by omega)
    unfold allL
    rw [ih]
    have hl : (l.take k).length = k := by rw [List.length_take]; omega
    unfold addL
    rw [if_pos (by rw [hl]; omega), List.take_add_one, List.getElem?_eq_getElem hk, List.getD_eq_getElem?_getD, List.getElem?_eq_getElem hk]
    rfl
theorem count_set_le (y x : Int) : ∀ (zs : List Int) (i : Nat), (zs.set i x).count y ≤ zs.count y + [x].count y
  | [], i => by simp
  | z :: zs, 0 => by
    rw [List.set_cons_zero, List.count_cons, List.count_cons, List.count_singleton]
    omega
  | z :: zs, i + 1 => by
    have := count_set_le y x zs i
    rw [List.set_cons_succ, List.count_cons, List.count_cons]
    omega
theorem allL_count {r : Int} {l ds : List Int} (y : Int) : ∀ k : Nat, k ≤ l.length → (allL r l ds k).count y ≤ (l.take k).count y
  | 0, _ => by simp [allL]
  | k + 1, hk => by
    have ih := allL_count (r := r) (l := l) (ds := ds) y k (by omega)
    have e : (l.take (k + 1)).count y = (l.take k).count y + [l.getD k 0].count y := by
      rw [List.take_add_one, List.count_append, List.getElem?_eq_getElem hk, List.getD_eq_getElem?_getD, List.getElem?_eq_getElem hk]; rfl
    rw [e]
    unfold allL addL
    split
    · rw [List.count_append]; omega
    · split
      · have := count_set_le y (l.getD k 0) (allL r l ds k) (ds.getD k 0).toNat
        omega
      · omega
theorem count_erase : ∀ (zs : List Int) (i : Nat) (h : i < zs.length) (y : Int), zs.count y = (zs.eraseIdx i).count y + [zs.getD i 0].count y
  | z :: zs, 0, _, y => by
    rw [List.eraseIdx_cons_zero, List.count_cons, List.count_singleton]; rfl
  | z :: zs, i + 1, h, y => by
    have := count_erase zs i (by simpa using h) y
    rw [List.eraseIdx_cons_succ, List.count_cons, List.count_cons, List.getD_cons_succ]
    omega
/-- The rest to be found is in what is left. -/
def Fits (H L : List Int) : Prop := ∀ y, H.count y ≤ L.count y
theorem Fits.mem {H L : List Int} (h : Fits H L) {x : Int} (hx : x ∈ H) : x ∈ L := by
  have h1 := h x
  have h2 := List.count_pos_iff.2 hx
  exact List.count_pos_iff.1 (by omega)
theorem Fits.step {H L : List Int} {i k : Nat} (h : Fits (H.drop i) L) (hi : i < H.length) (hk : k < L.length) (he : L.getD k 0 = H.getD i 0) : Fits (H.drop (i + 1)) (L.eraseIdx k) := fun y => by
  have h1 := h y
  rw [List.drop_eq_getElem_cons hi, List.count_cons] at h1
  have h2 := count_erase L k hk y
  rw [he, List.count_singleton, List.getD_eq_getElem?_getD, List.getElem?_eq_getElem hi] at h2
  simp only [Option.getD_some] at h2
  omega
theorem erase_eq (zs : List Int) (k : Nat) : zs.eraseIdx k = zs.take k ++ zs.drop (k + 1) := List.eraseIdx_eq_take_drop_succ ..
/-- Who is left when some are drawn out. -/
def smL (zs ds : List Int) : Nat → List Int
  | 0 => zs
  | j + 1 => (smL zs ds j).eraseIdx (ds.getD j 0).toNat
theorem smL_len {zs ds : List Int} : ∀ j : Nat, (∀ i, i < j → 0 ≤ ds.getD i 0 ∧ ds.getD i 0 < (zs.length : Int) - i) → (smL zs ds j).length = zs.length - j ∧ (j ≤ zs.length)
  | 0, _ => ⟨rfl, Nat.zero_le _⟩
  | j + 1, h => by
    obtain ⟨h1, h2⟩ := smL_len j (fun i hi => h i (by omega))
    have h3 := h j (by omega)
    unfold smL
    rw [List.length_eraseIdx_of_lt (by omega)]
    omega
end Go.Proofs.Ytimknmofcnhbpaa
