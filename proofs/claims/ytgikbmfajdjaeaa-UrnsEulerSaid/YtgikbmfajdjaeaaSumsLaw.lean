/- Sums of numbers, counted row by row: all, odd ones, unlike ones; what they are up to 40. No condition. -/
import Derived.Test.YtgikbmfajdjaeaaTab
set_option linter.unusedSimpArgs false
set_option linter.unusedVariables false
namespace Go.Proofs.Ytgikbmfajdjaeaa
/-- f, with as many d's as there may be. -/
def stp (d : Nat) (f : Nat → Nat) : Nat → Nat → Nat
  | 0, m => f m
  | u + 1, m => f m + if d ≤ m then stp d f u (m - d) else 0
theorem stp_fuel (d : Nat) (hd : 1 ≤ d) (f : Nat → Nat) : ∀ u v m, m ≤ u → m ≤ v → stp d f u m = stp d f v m := by
  intro u
  induction u with
  | zero =>
    intro v m h1 h2
    obtain rfl : m = 0 := by omega
    cases v with
    | zero => rfl
    | succ v => rw [stp, stp, if_neg (by omega)]; rfl
  | succ u ih =>
    intro v m h1 h2
    cases v with
    | zero =>
      obtain rfl : m = 0 := by omega
      rw [stp, stp, if_neg (by omega)]; rfl
    | succ v =>
      rw [stp, stp]
      by_cases h : d ≤ m
      · rw [if_pos h, if_pos h, ih v (m - d) (by omega) (by omega)]
      · rw [if_neg h, if_neg h]
def adds (d : Nat) (f : Nat → Nat) (m : Nat) : Nat := stp d f m m
theorem adds_low (d : Nat) (f : Nat → Nat) (m : Nat) (h : m < d) : adds d f m = f m := by
  unfold adds
  cases m with
  | zero => rfl
  | succ m => rw [stp, if_neg (by omega)]; rfl
theorem adds_step (d : Nat) (hd : 1 ≤ d) (f : Nat → Nat) (m : Nat) (h : d ≤ m) : adds d f m = f m + adds d f (m - d) := by
  unfold adds
  obtain ⟨q, rfl⟩ : ∃ q, m = q + 1 := ⟨m - 1, by omega⟩
  rw [stp, if_pos h, stp_fuel d hd f q (q + 1 - d) (q + 1 - d) (by omega) (Nat.le_refl _)]
def pr : Nat → Nat → Nat
  | 0, m => if m = 0 then 1 else 0
  | j + 1, m => adds (j + 1) (pr j) m
def od : Nat → Nat → Nat
  | 0, m => if m = 0 then 1 else 0
  | j + 1, m => if (j + 1) % 2 = 1 then adds (j + 1) (od j) m else od j m
def un : Nat → Nat → Nat
  | 0, m => if m = 0 then 1 else 0
  | j + 1, m => un j m + if j + 1 ≤ m then un j (m - (j + 1)) else 0
/-- The same, as a list, fast. -/
def upd (d : Nat) : List Nat → List Nat → List Nat
  | [], acc => acc.reverse
  | x :: xs, acc => upd d xs ((x + acc.getD (d - 1) 0) :: acc)
theorem range_from (f : Nat → Nat) (m n : Nat) : (List.range' m (n + 1)).map f = f m :: (List.range' (m + 1) n).map f := by
  rw [List.range'_succ]; rfl
theorem upd_eq (d : Nat) (hd : 1 ≤ d) (f : Nat → Nat) : ∀ n m (acc : List Nat), acc = ((List.range m).map (adds d f)).reverse → upd d ((List.range' m n).map f) acc = (List.range (m + n)).map (adds d f) := by
  intro n
  induction n with
  | zero => intro m acc h; simp [upd, h]
  | succ n ih =>
    intro m acc h
    rw [range_from, upd, ih (m + 1)]
    · rw [show m + 1 + n = m + (n + 1) by omega]
    · rw [List.range_succ, List.map_append, List.reverse_append]
      subst h
      simp only [List.map_cons, List.map_nil, List.reverse_cons, List.reverse_nil, List.nil_append, List.cons_append, List.cons.injEq, and_true]
      by_cases h : d ≤ m
      · rw [adds_step d hd f m h]
        congr 1
        rw [List.getD_eq_getElem?_getD, List.getElem?_reverse (by simp; omega)]
        simp only [List.length_map, List.length_range, List.getElem?_map]
        rw [List.getElem?_range (by omega), show m - 1 - (d - 1) = m - d by omega]
        rfl
      · rw [adds_low d f m (by omega), List.getD_eq_getElem?_getD, List.getElem?_eq_none (by simp; omega)]
        rfl
def row0 : List Nat := (List.range 41).map (fun m => if m = 0 then 1 else 0)
def prL : Nat → List Nat
  | 0 => row0
  | j + 1 => upd (j + 1) (prL j) []
def odL : Nat → List Nat
  | 0 => row0
  | j + 1 => if (j + 1) % 2 = 1 then upd (j + 1) (odL j) [] else odL j
def unL : Nat → List Nat
  | 0 => row0
  | j + 1 => List.zipWith (· + ·) (unL j) (List.replicate (j + 1) 0 ++ unL j)
theorem upd_all (d : Nat) (hd : 1 ≤ d) (f : Nat → Nat) : upd d ((List.range 41).map f) [] = (List.range 41).map (adds d f) := by
  have := upd_eq d hd f 41 0 [] rfl
  rwa [← List.range_eq_range', Nat.zero_add] at this
theorem prL_eq (j : Nat) : prL j = (List.range 41).map (pr j) := by
  induction j with
  | zero => rfl
  | succ j ih => rw [prL, ih, upd_all _ (by omega)]; rfl
theorem odL_eq (j : Nat) : odL j = (List.range 41).map (od j) := by
  induction j with
  | zero => rfl
  | succ j ih =>
    rw [odL, ih]
    by_cases h : (j + 1) % 2 = 1
    · rw [if_pos h, upd_all _ (by omega)]
      apply List.map_congr_left; intro m _; rw [od, if_pos h]
    · rw [if_neg h]
      apply List.map_congr_left; intro m _; rw [od, if_neg h]
theorem unL_eq (j : Nat) : unL j = (List.range 41).map (un j) := by
  induction j with
  | zero => rfl
  | succ j ih =>
    rw [unL, ih]
    apply List.ext_getElem
    · simp
    · intro i h1 h2
      simp only [List.getElem_zipWith, List.getElem_map, List.getElem_range, un]
      congr 1
      by_cases h : j + 1 ≤ i
      · rw [if_pos h, List.getElem_append_right (by simpa using h)]; simp
      · rw [if_neg h, List.getElem_append_left (by simp; omega)]; simp
theorem get41 (f : Nat → Nat) (m : Nat) (h : m < 41) : ((List.range 41).map f).getD m 0 = f m := by
  simp [List.getD_eq_getElem?_getD, List.getElem?_map, List.getElem?_range, h]
theorem prL_small : ∀ j, j < 41 → (prL j).all (· ≤ 1000000) = true := by decide +kernel
theorem odL_small : ∀ j, j < 41 → (odL j).all (· ≤ 1000000) = true := by decide +kernel
theorem unL_small : ∀ j, j < 41 → (unL j).all (· ≤ 1000000) = true := by decide +kernel
theorem small41 {f : Nat → Nat} (h : ((List.range 41).map f).all (· ≤ 1000000) = true) (m : Nat) (hm : m < 41) : f m ≤ 1000000 := by
  have := List.all_eq_true.1 h (f m) (List.mem_map.2 ⟨m, List.mem_range.2 hm, rfl⟩)
  simpa using this
theorem pr_bd (j m : Nat) (hj : j < 41) (hm : m < 41) : pr j m ≤ 1000000 := small41 (by rw [← prL_eq]; exact prL_small j hj) m hm
theorem od_bd (j m : Nat) (hj : j < 41) (hm : m < 41) : od j m ≤ 1000000 := small41 (by rw [← odL_eq]; exact odL_small j hj) m hm
theorem un_bd (j m : Nat) (hj : j < 41) (hm : m < 41) : un j m ≤ 1000000 := small41 (by rw [← unL_eq]; exact unL_small j hj) m hm
theorem odun_L : ∀ n, n < 41 → (odL n).getD n 0 = (unL n).getD n 0 := by decide +kernel
theorem odun (n : Nat) (hn : n < 41) : od n n = un n n := by
  have := odun_L n hn
  rwa [odL_eq, unL_eq, get41 _ _ hn, get41 _ _ hn] at this
/-- The sum over j of the sums of j unlike numbers. -/
def js (n : Nat) : Nat → Nat
  | 0 => 0
  | j + 1 => js n j + pr (j + 1) (n - (j + 1) * (j + 2) / 2)
def jsL (n : Nat) : Nat → Nat
  | 0 => 0
  | j + 1 => jsL n j + (prL (j + 1)).getD (n - (j + 1) * (j + 2) / 2) 0
theorem jsL_eq (n : Nat) (hn : n < 41) (j : Nat) : jsL n j = js n j := by
  induction j with
  | zero => rfl
  | succ j ih => rw [jsL, js, ih, prL_eq, get41 _ _ (by omega)]
/-- how many j there are -/
def top (n : Nat) : Nat := if n < 1 then 0 else if n < 3 then 1 else if n < 6 then 2 else if n < 10 then 3 else if n < 15 then 4 else if n < 21 then 5 else if n < 28 then 6 else if n < 36 then 7 else 8
theorem top_is : ∀ n, n < 41 → ∀ j, j < 42 → (decide (j + 1 ≤ top n) = decide ((j + 1) * (j + 2) / 2 ≤ n)) := by decide +kernel
theorem js_L : ∀ n, n < 41 → 1 ≤ n → jsL n (top n) = (unL n).getD n 0 := by decide +kernel
theorem js_all (n : Nat) (hn : n < 41) (h1 : 1 ≤ n) : js n (top n) = un n n := by
  have := js_L n hn h1
  rwa [jsL_eq n hn, unL_eq, get41 _ _ hn] at this
theorem js_bd (n : Nat) (hn : n < 41) (j : Nat) (hj : j ≤ 20) : js n j ≤ 1000000 * j := by
  induction j with
  | zero => simp [js]
  | succ j ih => rw [js]; have := pr_bd (j + 1) (n - (j + 1) * (j + 2) / 2) (by omega) (by omega); have := ih (by omega); omega
def sums (n k : Nat) : Nat := if n < k then 0 else pr k (n - k)
theorem sums_rec (n k : Nat) (hk : 1 ≤ k) (hkn : k ≤ n) : sums n k = sums (n - 1) (k - 1) + sums (n - k) k := by
  obtain ⟨q, rfl⟩ : ∃ q, k = q + 1 := ⟨k - 1, by omega⟩
  rw [sums, if_neg (by omega), sums, if_neg (by omega), sums, pr]
  rw [show n - 1 - (q + 1 - 1) = n - (q + 1) by omega, show q + 1 - 1 = q by omega]
  by_cases h : n - (q + 1) < q + 1
  · rw [if_pos h, adds_low _ _ _ h]; rfl
  · rw [if_neg h, adds_step _ (by omega) _ _ (by omega)]; rfl
end Go.Proofs.Ytgikbmfajdjaeaa
