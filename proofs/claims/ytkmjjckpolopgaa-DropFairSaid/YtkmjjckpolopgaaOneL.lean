/- All draws that leave out one, in a row: plain. No condition. -/
import Derived.Test.YtkmjjckpolopgaaOne
import Derived.Test.YtkmjjckpolopgaaSumL
set_option linter.unusedSimpArgs false
set_option linter.unusedVariables false
namespace Go.Proofs.Ytkmjjckpolopgaa
/-- How much of N is not one's own. -/
def pt (N D x : Int) : Nat := (N - x * D).toNat
/-- What is left out, draw by draw. -/
def blk (N D : Int) : List Int → Nat → List Nat
  | [], _ => []
  | x :: l, i => List.replicate (pt N D x) i ++ blk N D l (i + 1)
theorem one_blk (N D : Int) : ∀ (l : List Int) (i : Nat) (d : Nat), oneF N D l i d = (blk N D l i)[d]?
  | [], i, d => rfl
  | x :: l, i, d => by
    have ih := one_blk N D l (i + 1)
    unfold oneF blk
    by_cases h : 0 < N - x * D
    · rw [if_pos h]
      have hp : ((pt N D x : Nat) : Int) = N - x * D := by unfold pt; omega
      by_cases g : (d : Int) < N - x * D
      · rw [if_pos g, List.getElem?_append_left (by simp; omega), List.getElem?_replicate, if_pos (by omega)]
      · rw [if_neg g, List.getElem?_append_right (by simp; omega), List.length_replicate, ← ih, show (d : Int) - (N - x * D) = ((d - pt N D x : Nat) : Int) by omega]
    · rw [if_neg h]
      have hp : pt N D x = 0 := by unfold pt; omega
      rw [hp, List.replicate_zero, List.nil_append, ← ih]
theorem blk_len {N D : Int} (hD : 1 ≤ D) : ∀ (l : List Int) (i : Nat), ((blk N D l i).length : Int) = l.length * N - mn N D l
  | [], i => by simp [blk, mn]
  | x :: l, i => by
    have ih := blk_len (N := N) hD l (i + 1)
    simp only [blk, mn, List.length_append, List.length_replicate, List.length_cons]
    have e : ((l.length + 1 : Nat) : Int) * N = (l.length : Int) * N + N := by
      rw [show ((l.length + 1 : Nat) : Int) = (l.length : Int) + 1 by omega, Int.add_mul]; omega
    rw [e, show ((pt N D x + (blk N D l (i + 1)).length : Nat) : Int) = (pt N D x : Int) + ((blk N D l (i + 1)).length : Int) by omega, ih]
    unfold pt
    omega
theorem blk_mem (N D : Int) : ∀ (l : List Int) (i : Nat), ∀ j ∈ blk N D l i, i ≤ j ∧ j < i + l.length
  | [], i, j, h => by simp [blk] at h
  | x :: l, i, j, h => by
    unfold blk at h
    rw [List.length_cons]
    rcases List.mem_append.1 h with h | h
    · rw [List.eq_of_mem_replicate h]; omega
    · have := blk_mem N D l (i + 1) j h; omega
theorem blk_count (N D : Int) : ∀ (l : List Int) (i k : Nat), k < l.length → (blk N D l i).count (i + k) = pt N D (l.getD k 0)
  | [], i, k, h => by simp at h
  | x :: l, i, 0, h => by
    unfold blk
    rw [List.count_append, Nat.add_zero, List.count_replicate_self]
    have : (blk N D l (i + 1)).count i = 0 := List.count_eq_zero.2 fun hm => by have := blk_mem N D l (i + 1) i hm; omega
    rw [this]; rfl
  | x :: l, i, k + 1, h => by
    unfold blk
    rw [List.count_append, List.count_replicate]
    have ih := blk_count N D l (i + 1) k (by simpa using h)
    rw [show i + (k + 1) = i + 1 + k by omega, ih]
    simp
    omega
/-- What is left out: of N draws one each, with as many as are not one's own. -/
theorem one_law {ws : List Int} (h : OkD ws (ws.length - 1)) :
    ((blk (lev ws (ws.length - 1)).1 (lev ws (ws.length - 1)).2 ws 0).length : Int) = (lev ws (ws.length - 1)).1 := by
  obtain ⟨a, b, c, d, e⟩ := lev_law h (by omega)
  rw [blk_len c, e]
  generalize (lev ws (ws.length - 1)).1 = N
  rw [Int.sub_mul]
  omega
/-! Told, and were. -/
def mx (N D x : Int) : Int := max (x * D) N
def inn (N D : Int) : List Int → List Bool → Nat → Nat → Int
  | x :: l, b :: s, i, j => (if b = true ∧ i ≠ j then mx N D x else 0) + inn N D l s (i + 1) j
  | _, _, _, _ => 0
def allM (N D : Int) : List Int → List Bool → Int
  | x :: l, b :: s => (if b = true then mx N D x else 0) + allM N D l s
  | _, _ => 0
def own1 (N D : Int) : List Int → List Bool → Nat → Nat → Int
  | x :: l, b :: s, i, j => (if b = true ∧ i = j then mx N D x else 0) + own1 N D l s (i + 1) j
  | _, _, _, _ => 0
def were (N D : Int) : List Int → List Bool → Int
  | x :: l, b :: s => (if b = true then x * D * N else 0) + were N D l s
  | _, _ => 0
def tot (f : Nat → Int) : List Nat → Int
  | [] => 0
  | j :: l => f j + tot f l
theorem inn_eq (N D : Int) : ∀ (l : List Int) (s : List Bool) (i j : Nat), inn N D l s i j = allM N D l s - own1 N D l s i j
  | [], s, i, j => by simp [inn, allM, own1]
  | x :: l, [], i, j => by simp [inn, allM, own1]
  | x :: l, b :: s, i, j => by
    have ih := inn_eq N D l s (i + 1) j
    simp only [inn, allM, own1, ih]
    by_cases hb : b = true
    · by_cases hj : i = j
      · simp [hb, hj]; omega
      · simp [hb, hj]; omega
    · simp [hb]
theorem tot_app (f : Nat → Int) : ∀ l m : List Nat, tot f (l ++ m) = tot f l + tot f m
  | [], m => by simp [tot]
  | x :: l, m => by simp only [List.cons_append, tot, tot_app f l m]; omega
theorem tot_rep (f : Nat → Int) (i : Nat) : ∀ n : Nat, tot f (List.replicate n i) = n * f i
  | 0 => by simp [tot]
  | n + 1 => by
    simp only [List.replicate_succ, tot, tot_rep f i n]
    rw [show ((n + 1 : Nat) : Int) = (n : Int) + 1 by omega, Int.add_mul]
    omega
theorem tot_congr {f g : Nat → Int} : ∀ {l : List Nat}, (∀ j ∈ l, f j = g j) → tot f l = tot g l
  | [], _ => rfl
  | j :: l, h => by simp only [tot]; rw [h j List.mem_cons_self, tot_congr (l := l) fun k hk => h k (List.mem_cons_of_mem _ hk)]
theorem tot_sub (a : Int) (f : Nat → Int) : ∀ l : List Nat, tot (fun j => a - f j) l = l.length * a - tot f l
  | [] => by simp [tot]
  | j :: l => by
    simp only [tot, tot_sub a f l, List.length_cons]
    rw [show ((l.length + 1 : Nat) : Int) = (l.length : Int) + 1 by omega, Int.add_mul]
    omega
theorem own1_out (N D : Int) : ∀ (l : List Int) (s : List Bool) (i j : Nat), j < i → own1 N D l s i j = 0
  | [], s, i, j, h => by simp [own1]
  | x :: l, [], i, j, h => by simp [own1]
  | x :: l, b :: s, i, j, h => by
    simp only [own1, own1_out N D l s (i + 1) j (by omega)]
    rw [if_neg (fun g => by omega)]; rfl
/-- Over all draws, what is one's own of each. -/
theorem tot_own {N D : Int} : ∀ (l : List Int) (s : List Bool) (i : Nat), l.length = s.length → N * allM N D l s - tot (own1 N D l s i) (blk N D l i) = were N D l s
  | [], [], i, _ => by simp [allM, own1, blk, tot, were]
  | [], _ :: _, i, h => by simp at h
  | _ :: _, [], i, h => by simp at h
  | x :: l, b :: s, i, h => by
    have ih := tot_own (N := N) (D := D) l s (i + 1) (by simpa using h)
    have hin : tot (own1 N D (x :: l) (b :: s) i) (blk N D l (i + 1)) = tot (own1 N D l s (i + 1)) (blk N D l (i + 1)) :=
      tot_congr fun j hj => by
        have := blk_mem N D l (i + 1) j hj
        simp only [own1]
        rw [if_neg (fun g => by omega)]; omega
    have hself : own1 N D (x :: l) (b :: s) i i = if b = true then mx N D x else 0 := by
      simp only [own1, own1_out N D l s (i + 1) i (by omega)]
      simp
    simp only [blk, tot_app, tot_rep, hin, hself, allM, were]
    rw [← ih]
    by_cases hb : b = true
    · simp only [if_pos hb]
      have e : N * mx N D x - (pt N D x : Int) * mx N D x = x * D * N := by
        unfold mx pt
        generalize x * D = y
        by_cases g : y ≤ N
        · rw [Int.max_eq_right g, Int.toNat_of_nonneg (by omega)]; grind
        · rw [Int.max_eq_left (by omega), Int.toNat_eq_zero.2 (by omega)]; simp [Int.mul_comm]
      rw [← e]
      grind
    · simp only [if_neg hb]
      grind
theorem fair_law {ws : List Int} (h : OkD ws (ws.length - 1)) (s : List Bool) (hs : ws.length = s.length) :
    tot (inn (lev ws (ws.length - 1)).1 (lev ws (ws.length - 1)).2 ws s 0) (blk (lev ws (ws.length - 1)).1 (lev ws (ws.length - 1)).2 ws 0) = were (lev ws (ws.length - 1)).1 (lev ws (ws.length - 1)).2 ws s := by
  have hl := one_law h
  generalize (lev ws (ws.length - 1)).1 = N at *
  generalize (lev ws (ws.length - 1)).2 = D at *
  rw [← tot_own ws s 0 hs]
  rw [tot_congr (g := fun j => allM N D ws s - own1 N D ws s 0 j) fun j _ => inn_eq N D ws s 0 j, tot_sub, hl]
end Go.Proofs.Ytkmjjckpolopgaa
