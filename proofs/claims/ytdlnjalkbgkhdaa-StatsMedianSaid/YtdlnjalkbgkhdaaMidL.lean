/- From the middle one all are no farther than from any other: plain. No condition. -/
import Derived.Test.YtdlnjalkbgkhdaaMed
set_option linter.unusedSimpArgs false
set_option linter.unusedVariables false
namespace Go.Proofs.Ytdlnjalkbgkhdaa
def ab (x : Int) : Int := max x (-x)
/-- Twice as far from m/2. -/
def nr (m : Int) : List Int → Int
  | [] => 0
  | y :: l => ab (m - 2 * y) + nr m l
theorem nr_app (m : Int) : ∀ l k : List Int, nr m (l ++ k) = nr m l + nr m k
  | [], k => by simp [nr]
  | y :: l, k => by simp only [List.cons_append, nr, nr_app m l k]; omega
theorem nr_perm (m : Int) {l k : List Int} (h : l.Perm k) : nr m l = nr m k := by
  induction h with
  | nil => rfl
  | cons x _ ih => simp only [nr, ih]
  | swap x y l => simp only [nr]; omega
  | trans _ _ h1 h2 => exact h1.trans h2
/-- Of a list in ascending order, twice as far from any m is no less than from the sum of both in the middle. -/
theorem nr_mid : ∀ (n : Nat) (l : List Int), l.length = n → l.Pairwise (· ≤ ·) → ∀ x : Int, 0 < l.length → nr (l.getD ((l.length - 1) / 2) 0 + l.getD (l.length / 2) 0) l ≤ nr (2 * x) l
  | 0, [], _, _, x, h => by simp at h
  | 1, [a], _, _, x, _ => by simp [nr, ab]; omega
  | n + 2, a :: l, hn, hs, x, _ => by
    obtain ⟨l', b, rfl⟩ : ∃ l' b, l = l' ++ [b] := by
      rcases List.eq_nil_or_concat l with h | ⟨l', b, h⟩
      · subst h; simp at hn
      · exact ⟨l', b, by simpa using h⟩
    have hl' : l'.length = n := by simp at hn; omega
    have hs1 := (List.pairwise_cons.1 hs)
    have hs2 := List.pairwise_append.1 hs1.2
    have hab : a ≤ b := hs1.1 b (by simp)
    have e1 : (a :: (l' ++ [b])).length = n + 2 := hn
    rcases Nat.eq_zero_or_pos n with h0 | h0
    · subst h0
      obtain rfl : l' = [] := List.length_eq_zero_iff.1 hl'
      simp [nr, ab]
      omega
    · have ih := nr_mid n l' hl' hs2.1 x (by omega)
      have i1 : (l'.length - 1) / 2 < l'.length := by omega
      have i2 : l'.length / 2 < l'.length := by omega
      have g : ∀ i, i < n → (a :: (l' ++ [b])).getD (i + 1) 0 = l'.getD i 0 := fun i hi => by
        rw [List.getD_cons_succ, List.getD_eq_getElem?_getD, List.getD_eq_getElem?_getD, List.getElem?_append_left (by omega)]
      have g1 : (a :: (l' ++ [b])).getD (((a :: (l' ++ [b])).length - 1) / 2) 0 = l'.getD ((l'.length - 1) / 2) 0 := by
        rw [e1, hl', show (n + 2 - 1) / 2 = (n - 1) / 2 + 1 by omega]; exact g _ (by omega)
      have g2 : (a :: (l' ++ [b])).getD ((a :: (l' ++ [b])).length / 2) 0 = l'.getD (l'.length / 2) 0 := by
        rw [e1, hl', show (n + 2) / 2 = n / 2 + 1 by omega]; exact g _ (by omega)
      rw [g1, g2]
      have m1 := getD_memI l' ((l'.length - 1) / 2) i1
      have m2 := getD_memI l' (l'.length / 2) i2
      generalize l'.getD ((l'.length - 1) / 2) 0 = u at *
      generalize l'.getD (l'.length / 2) 0 = v at *
      have b1 := hs1.1 u (by simp [m1])
      have b2 := hs1.1 v (by simp [m2])
      have b3 := hs2.2.2 u m1 b (by simp)
      have b4 := hs2.2.2 v m2 b (by simp)
      simp only [nr, nr_app]
      have : ab (u + v - 2 * a) + ab (u + v - 2 * b) ≤ ab (2 * x - 2 * a) + ab (2 * x - 2 * b) := by simp only [ab]; omega
      omega
theorem nr_med {zs : List Int} (h : 0 < zs.length) (x : Int) : nr (med zs) zs ≤ nr (2 * x) zs := by
  rw [← nr_perm _ (srt_perm zs), ← nr_perm (2 * x) (srt_perm zs)]
  unfold med
  have := nr_mid _ (srt zs) rfl (srt_up zs) x (by rw [srt_len]; exact h)
  rwa [srt_len] at this
theorem nr_take (m : Int) (l : List Int) (k : Nat) (h : k < l.length) : nr m (l.take (k + 1)) = nr m (l.take k) + ab (m - 2 * l.getD k 0) := by
  rw [take_s l k h, nr_app]; simp [nr]
theorem nr_bd (m : Int) (hm : -4398046511104 ≤ m ∧ m ≤ 4398046511104) : ∀ {l : List Int}, Sml l → 0 ≤ nr m l ∧ nr m l ≤ (l.length : Int) * 4398048608256
  | [], _ => by simp [nr]
  | y :: l, h => by
    have h1 := h y List.mem_cons_self
    have ih := nr_bd m hm (l := l) fun z hz => h z (List.mem_cons_of_mem _ hz)
    simp only [nr, ab, List.length_cons]
    omega
theorem med_bd {zs : List Int} (h : Sml zs) (h0 : 0 < zs.length) : -2097152 ≤ med zs ∧ med zs ≤ 2097152 := by
  have h1 := srt_sml h _ (getD_memI (srt zs) ((zs.length - 1) / 2) (by rw [srt_len]; omega))
  have h2 := srt_sml h _ (getD_memI (srt zs) (zs.length / 2) (by rw [srt_len]; omega))
  unfold med
  omega
end Go.Proofs.Ytdlnjalkbgkhdaa
