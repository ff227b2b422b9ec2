/- ChainScale: a row so many times as great: plain. No condition. -/
import Derived.Test.YtidnmdfpnmahpaaBackL
set_option linter.unusedSimpArgs false
set_option linter.unusedVariables false
namespace Go.Proofs.Ytidnmdfpnmahpaa
def scK (k : Nat) (c : Int) (i : Nat) : Int := if i = k then c else 1
def prodK (k : Nat) (c : Int) : List Nat → Int
  | [] => 1
  | i :: L => scK k c i * prodK k c L
theorem prodK_app (k : Nat) (c : Int) : ∀ L i, prodK k c (L ++ [i]) = prodK k c L * scK k c i
  | [], i => by simp [prodK]
  | a :: L, i => by show scK k c a * prodK k c (L ++ [i]) = scK k c a * prodK k c L * scK k c i; rw [prodK_app k c L i, Int.mul_assoc]
theorem prodK_idx (k r : Nat) (c : Int) : ∀ j, prodK k c (idxR j r) = if k < j ∧ k ≠ r then c else 1
  | 0 => by simp [idxR, prodK]
  | j + 1 => by
    have ih := prodK_idx k r c j
    rw [idxR_succ]
    by_cases e : j = r
    · rw [if_pos e, List.append_nil, ih]
      by_cases h : k < j ∧ k ≠ r
      · rw [if_pos h, if_pos ⟨by omega, h.2⟩]
      · rw [if_neg h, if_neg (by omega)]
    · rw [if_neg e, prodK_app, ih]
      unfold scK
      by_cases e2 : j = k
      · rw [if_pos e2, if_neg (by omega), if_pos (by omega), Int.one_mul]
      · rw [if_neg e2, Int.mul_one]
        by_cases h : k < j ∧ k ≠ r
        · rw [if_pos h, if_pos (by omega)]
        · rw [if_neg h, if_neg (by omega)]
theorem map_getD0 (s : Int) (r : List Int) (c : Nat) : (r.map (· * s)).getD c 0 = r.getD c 0 * s := by
  rw [List.getD_eq_getElem?_getD, List.getElem?_map, List.getD_eq_getElem?_getD]
  cases r[c]? <;> simp
theorem accD_mul (D D' : Nat → Int) (P s : Int) (r : List Int) (h : ∀ c, D' c = D c * P) : ∀ m, accD D' (r.map (· * s)) m = accD D r m * (s * P)
  | 0 => by simp [accD]
  | m + 1 => by
    unfold accD
    rw [accD_mul D D' P s r h m, map_getD0, h]
    grind
theorem eraseIdx_mul (s : Int) : ∀ (r : List Int) (x : Nat), (r.map (· * s)).eraseIdx x = (r.eraseIdx x).map (· * s)
  | [], _ => rfl
  | _ :: _, 0 => rfl
  | a :: r, x + 1 => by show a * s :: (r.map (· * s)).eraseIdx x = a * s :: (r.eraseIdx x).map (· * s); rw [eraseIdx_mul s r x]
theorem detL_mul (k : Nat) (c : Int) : ∀ (m : Nat) (L : List Nat) (f : Nat → List Int), L.length = m → detL m (L.map fun i => (f i).map (· * scK k c i)) = detL m (L.map f) * prodK k c L
  | 0, [], f, _ => by simp [detL, prodK]
  | m + 1, i :: L, f, hL => by
    have h := accD_mul (fun x => detL m (minorL (L.map f) x)) (fun x => detL m (minorL (L.map fun i => (f i).map (· * scK k c i)) x)) (prodK k c L) (scK k c i) (f i) (fun x => by
      have ih := detL_mul k c m L (fun i => (f i).eraseIdx x) (by simpa using hL)
      have e1 : minorL (L.map fun i => (f i).map (· * scK k c i)) x = L.map fun i => ((f i).eraseIdx x).map (· * scK k c i) := by
        unfold minorL
        rw [List.map_map]
        refine List.map_congr_left fun a _ => ?_
        exact eraseIdx_mul _ _ _
      have e2 : minorL (L.map f) x = L.map fun i => (f i).eraseIdx x := by unfold minorL; rw [List.map_map]; rfl
      show detL m (minorL _ x) = detL m (minorL _ x) * _
      rw [e1, e2, ih]) (m + 1)
    exact h
theorem sumL_mul (s : Int) : ∀ r : List Int, sumL (r.map (· * s)) = sumL r * s
  | [] => by simp [sumL]
  | x :: r => by show x * s + sumL (r.map (· * s)) = (x + sumL r) * s; rw [sumL_mul s r, Int.add_mul]
/-- The matrix, row k taken c times. -/
def mulM (M : List (List Int)) (k : Nat) (c : Int) : List (List Int) := M.set k ((M.getD k []).map (· * c))
theorem mulM_get (M : List (List Int)) (k : Nat) (c : Int) (i : Nat) : (mulM M k c).getD i [] = (M.getD i []).map (· * scK k c i) := by
  unfold mulM scK
  by_cases e : i = k
  · subst e
    rw [if_pos rfl]
    by_cases hl : i < M.length
    · simp [List.getD_eq_getElem?_getD, List.getElem?_set, hl]
    · simp [List.getD_eq_getElem?_getD, List.getElem?_set, hl]
  · rw [if_neg e]
    have : k ≠ i := fun h => e h.symm
    simp [List.getD_eq_getElem?_getD, List.getElem?_set, this]
theorem mulM_len (M : List (List Int)) (k : Nat) (c : Int) : (mulM M k c).length = M.length := by unfold mulM; simp
theorem lapE_mul (M : List (List Int)) (k : Nat) (c : Int) (i j : Nat) : lapE (mulM M k c) i j = lapE M i j * scK k c i := by
  unfold lapE
  rw [mulM_get, sumL_mul, map_getD0, map_getD0]
  split <;> grind
theorem lap_mul (M : List (List Int)) (k : Nat) (c : Int) (n root : Nat) : lap (mulM M k c) n n root = (idxR n root).map fun i => (lapRow M n root i).map (· * scK k c i) := by
  unfold lap
  refine List.map_congr_left fun i _ => ?_
  unfold lapRow
  rw [List.map_map]
  exact List.map_congr_left fun j _ => lapE_mul M k c i j
theorem outV_mul (M : List (List Int)) (k : Nat) (c : Int) (n r : Nat) (hk : k < n) (hr : r < n) : outV (mulM M k c) n r = outV M n r * c := by
  unfold outV
  rw [lap_mul, mulM_get, sumL_mul, detL_mul k c (n - 1) (idxR n r) _ (by rw [idxR_len, if_pos hr]), prodK_idx]
  unfold lap scK
  by_cases e : r = k
  · rw [if_neg (by omega), if_pos e]; grind
  · rw [if_pos ⟨hk, fun h => e h.symm⟩, if_neg e]; grind
theorem gcdF_mul (c : Nat) : ∀ (l : List Nat) (g : Nat), gcdF (l.map (· * c)) (g * c) = gcdF l g * c
  | [], g => rfl
  | x :: l, g => by
    show gcdF (l.map (· * c)) (Nat.gcd (x * c) (g * c)) = gcdF l (Nat.gcd x g) * c
    rw [Nat.gcd_mul_right, gcdF_mul c l]
theorem lowN_scale (c : Nat) (hc : 0 < c) (l : List Nat) : lowN (l.map (· * c)) = lowN l := by
  have hg : gcdF (l.map (· * c)) 0 = gcdF l 0 * c := by have := gcdF_mul c l 0; rwa [Nat.zero_mul] at this
  have hd := (gcdF_dvd l 0).2
  unfold lowN
  rw [hg]
  generalize gcdF l 0 = g at *
  rcases Nat.eq_zero_or_pos g with h0 | h0
  · subst h0
    rw [if_neg (by omega), if_neg (by omega)]
    have : l.map (· * c) = l.map id := List.map_congr_left fun x hx => by have := Nat.eq_zero_of_zero_dvd (hd x hx); rw [this]; simp
    rw [this, List.map_id]
  · by_cases h1 : 1 < g
    · rw [if_pos (Nat.lt_of_lt_of_le h1 (Nat.le_mul_of_pos_right g hc)), if_pos h1, List.map_map]
      exact List.map_congr_left fun x _ => Nat.mul_div_mul_right x g hc
    · obtain rfl : g = 1 := by omega
      rw [if_neg h1]
      by_cases h2 : 1 < 1 * c
      · rw [if_pos h2, List.map_map]
        have : l.map ((· / (1 * c)) ∘ (· * c)) = l.map id := List.map_congr_left fun x _ => by show x * c / (1 * c) = x; rw [Nat.one_mul, Nat.mul_div_cancel x hc]
        rw [this, List.map_id]
      · rw [if_neg h2]
        obtain rfl : c = 1 := by omega
        simp
theorem restN_mul (M : List (List Int)) (k c n : Nat) (hc : 0 < c) (hk : k < n) : restN (mulM M k (c : Int)) n = restN M n := by
  unfold restN
  rw [← lowN_scale c hc ((List.range n).map (outN M n)), List.map_map]
  congr 1
  refine List.map_congr_left fun r hr => ?_
  have hr' := List.mem_range.1 hr
  show (outV (mulM M k (c : Int)) n r).toNat = (outV M n r).toNat * c
  rw [outV_mul M k c n r hk hr']
  generalize outV M n r = x
  rcases Int.le_total 0 x with h | h
  · obtain ⟨y, rfl⟩ := Int.eq_ofNat_of_zero_le h
    rw [← Int.natCast_mul]; rfl
  · have : x * (c : Int) ≤ 0 := Int.mul_nonpos_of_nonpos_of_nonneg h (by omega)
    rw [Int.toNat_of_nonpos this, Int.toNat_of_nonpos h, Nat.zero_mul]
theorem posM_mul (M : List (List Int)) (k c : Nat) (hc : 0 < c) : posM (mulM M k (c : Int)) = posM M := by
  funext i j
  unfold posM
  rw [mulM_get, map_getD0]
  have hs : 0 < scK k (c : Int) i := by unfold scK; split <;> omega
  generalize scK k (c : Int) i = s at *
  generalize (M.getD i []).getD j 0 = x
  refine decide_eq_decide.2 ⟨fun h => ?_, fun h => Int.mul_pos h hs⟩
  exact Int.pos_of_mul_pos_left h hs
theorem errS_02 : ∀ (r : List Int) (s : Int), (∀ x ∈ r, 0 ≤ x) → 0 < s + sumL r → errS r s = 0 ∨ errS r s = 2
  | [], s, _, h => by
    simp only [sumL] at h
    exact .inl (by unfold errS; rw [if_neg (by omega)])
  | x :: r, s, hx, h => by
    unfold errS
    split
    · exact errS_02 r (s + x) (fun y hy => hx y (List.mem_cons_of_mem _ hy)) (by simp only [sumL] at h; omega)
    · exact .inr rfl
theorem wrongR_02 (n : Nat) : ∀ M : List (List Int), (∀ r ∈ M, r.length = n ∧ (∀ x ∈ r, 0 ≤ x) ∧ 0 < sumL r) → wrongR n M = 0 ∨ wrongR n M = 2
  | [], _ => .inl rfl
  | r :: M, h => by
    obtain ⟨h1, h2, h3⟩ := h r List.mem_cons_self
    have e : rowErr n r = 0 ∨ rowErr n r = 2 := by unfold rowErr; rw [if_pos h1]; exact errS_02 r 0 h2 (by omega)
    unfold wrongR
    rcases e with e | e
    · rw [if_pos e]; exact wrongR_02 n M fun q hq => h q (List.mem_cons_of_mem _ hq)
    · rw [if_neg (by omega)]; exact .inr e
theorem wrongN_mul {n : Nat} {M : List (List Int)} (h : Good n M) (k c : Nat) (hc : 0 < c) (hk : k < n) : wrongN (mulM M k (c : Int)) = 0 ∨ wrongN (mulM M k (c : Int)) = 2 := by
  obtain ⟨h1, h2, h3, h4⟩ := h
  unfold wrongN
  rw [mulM_len, h1, if_neg (by omega)]
  refine wrongR_02 n _ fun r hr => ?_
  unfold mulM at hr
  rcases List.mem_or_eq_of_mem_set hr with hr | rfl
  · obtain ⟨a, b, d⟩ := h4 r hr
    exact ⟨a, fun x hx => (b x hx).1, d⟩
  · obtain ⟨a, b, d⟩ := h4 _ (getD_mem M k [] (by omega))
    refine ⟨by rw [List.length_map, a], fun x hx => ?_, ?_⟩
    · obtain ⟨y, hy, rfl⟩ := List.mem_map.1 hx
      exact Int.mul_nonneg (b y hy).1 (by omega)
    · rw [sumL_mul]; exact Int.mul_pos d (by omega)
end Go.Proofs.Ytidnmdfpnmahpaa
