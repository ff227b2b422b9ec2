/- The plain laws of all tapes of one length: tape.Fair, tape.Below. No program in sight. No condition. -/
import Derived.Test.YtjcdkajcbefgcaaDef
set_option linter.unusedSimpArgs false
set_option linter.unusedVariables false
namespace Go.Proofs.Ytjcdkajcbefgcaa
def pop : List Bool → Nat
  | [] => 0
  | b :: t => (if b then 1 else 0) + pop t
theorem pop_snoc (b : Bool) : ∀ t : List Bool, pop (t ++ [b]) = pop t + if b then 1 else 0
  | [] => by simp [pop]
  | c :: t => by rw [List.cons_append, pop, pop, pop_snoc b t]; omega
theorem pop_le : ∀ t : List Bool, pop t ≤ t.length
  | [] => Nat.le_refl _
  | c :: t => by have := pop_le t; rw [pop, List.length_cons]; split <;> omega
def vote (t : List Bool) : Option Bool := (fairF t).map Prod.fst
theorem vote_cons (a b : Bool) (t : List Bool) : vote (a :: b :: t) = if a = b then vote t else some a := by
  unfold vote
  rw [fairF]
  by_cases h : a = b
  · rw [if_pos h, if_pos h, Option.map_map]; rfl
  · rw [if_neg h, if_neg h]; rfl
def says (c : Bool) (P : Nat → Bool) (t : List Bool) : Nat := if P (pop t) && decide (vote t = some c) then 1 else 0
theorem says_le (c : Bool) (P : Nat → Bool) (t : List Bool) : says c P t ≤ 1 := by unfold says; split <;> omega
theorem fair_law : ∀ (n : Nat) (P : Nat → Bool), tot (fun x => says true P (tp n x)) (2 ^ n) = tot (fun x => says false P (tp n x)) (2 ^ n)
  | 0, P => by simp [tot, says, tp_zero, vote, fairF]
  | 1, P => by
    have h : ∀ (c : Bool) x, says c P (tp 1 x) = 0 := fun c x => by
      have : vote (tp 1 x) = none := by unfold tp; rw [tabB_cons]; rfl
      simp [says, this]
    simp only [h]
  | n + 2, P => by
    have s0 : ∀ (c : Bool) t, says c P (false :: false :: t) = says c P t := fun c t => by simp [says, pop, vote_cons]
    have s3 : ∀ (c : Bool) t, says c P (true :: true :: t) = says c (fun k => P (k + 2)) t := fun c t => by
      simp [says, pop, vote_cons, show 1 + (1 + pop t) = pop t + 2 by omega]
    have s1 : ∀ t, says true P (false :: true :: t) = 0 := fun t => by simp [says, pop, vote_cons]
    have s2 : ∀ t, says false P (true :: false :: t) = 0 := fun t => by simp [says, pop, vote_cons]
    have s4 : ∀ t, says true P (true :: false :: t) = says false P (false :: true :: t) := fun t => by simp [says, pop, vote_cons]
    have h := fun c => tot_tapes (fun t => says c P t) (n + 1)
    have ha := fun c => tot_tapes (fun t => says c P (false :: t)) n
    have hb := fun c => tot_tapes (fun t => says c P (true :: t)) n
    rw [h true, h false, ha true, ha false, hb true, hb false]
    simp only [s0, s3, s1, s2, s4, tot_const]
    have i1 := fair_law n P
    have i2 := fair_law n (fun k => P (k + 2))
    omega
/-! ### All tapes of twice the width -/
theorem num_tp : ∀ (n acc y : Nat), y < 2 ^ n → num acc (tp n y) = acc * 2 ^ n + y
  | 0, acc, y, h => by
    have : y = 0 := by simpa using h
    subst this; simp [tp_zero, num]
  | n + 1, acc, y, h => by
    rw [Nat.pow_succ] at h
    have e : acc * (2 ^ n * 2) = 2 * acc * 2 ^ n := by rw [Nat.mul_comm (2 ^ n) 2, ← Nat.mul_assoc, Nat.mul_comm acc 2]
    by_cases hy : y < 2 ^ n
    · rw [tp_low n y hy, num, num_tp n _ y hy, Nat.pow_succ, e]; simp
    · obtain ⟨z, rfl⟩ : ∃ z, y = 2 ^ n + z := ⟨y - 2 ^ n, by omega⟩
      rw [tp_high n z (by omega), num, num_tp n _ z (by omega), Nat.pow_succ, e, if_pos rfl, Nat.add_mul]; omega
theorem bitf_eq (x n k : Nat) : bitf x n k = x.testBit (n - 1 - k) := by rw [Nat.testBit_eq_decide_div_mod_eq]; rfl
theorem tp_take (a b x : Nat) : (tp (a + b) x).take a = tp a (x / 2 ^ b) := by
  refine list_extB (n := a) (by rw [List.length_take, tp_len]; omega) (tp_len _ _) fun j hj => ?_
  rw [List.getD_eq_getElem?_getD, List.getElem?_take, if_pos hj, ← List.getD_eq_getElem?_getD]
  unfold tp
  rw [tabB_get _ _ _ (by omega), tabB_get _ _ _ hj, bitf_eq, bitf_eq, Nat.testBit_div_two_pow]
  congr 1; omega
theorem tp_drop (a b x : Nat) : (tp (a + b) x).drop a = tp b (x % 2 ^ b) := by
  refine list_extB (n := b) (by rw [List.length_drop, tp_len]; omega) (tp_len _ _) fun j hj => ?_
  rw [List.getD_eq_getElem?_getD, List.getElem?_drop, ← List.getD_eq_getElem?_getD]
  unfold tp
  rw [tabB_get _ _ _ (by omega), tabB_get _ _ _ hj, bitf_eq, bitf_eq, Nat.testBit_mod_two_pow]
  rw [show a + b - 1 - (a + j) = b - 1 - j by omega]
  simp; omega
def res (w n x : Nat) : Option Nat := if x / 2 ^ w < n then some (x / 2 ^ w) else if x % 2 ^ w < n then some (x % 2 ^ w) else none
theorem bel_res (w n x : Nat) (hw : 0 < w) (hx : x < 2 ^ (2 * w)) (hn : 0 < n) :
    (bel w n (2 * w + 1) (tp (2 * w) x)).map Prod.fst = res w n x := by
  obtain ⟨g, rfl⟩ : ∃ g, w = g + 1 := ⟨w - 1, by omega⟩
  rw [show 2 * (g + 1) = (g + 1) + (g + 1) by omega] at hx ⊢
  generalize hw' : g + 1 = w at *
  have hp : 0 < 2 ^ w := Nat.two_pow_pos w
  rw [bel, tp_len, if_neg (by omega), tp_take, tp_drop, num_tp _ _ _ (by rw [Nat.pow_add] at hx; exact Nat.div_lt_of_lt_mul hx), Nat.zero_mul, Nat.zero_add]
  unfold res
  by_cases h1 : x / 2 ^ w < n
  · rw [if_pos h1, if_pos h1]; rfl
  · rw [if_neg h1, if_neg h1]
    obtain ⟨k, hk⟩ : ∃ k, w + w = k + 2 := ⟨w + w - 2, by omega⟩
    rw [hk, bel, tp_len, if_neg (by omega)]
    have ht : (tp w (x % 2 ^ w)).take w = tp w (x % 2 ^ w) := List.take_of_length_le (by rw [tp_len]; exact Nat.le_refl _)
    rw [ht, num_tp _ _ _ (Nat.mod_lt _ hp), Nat.zero_mul, Nat.zero_add]
    by_cases h2 : x % 2 ^ w < n
    · rw [if_pos h2, if_pos h2]; rfl
    · rw [if_neg h2, if_neg h2]
      have hd : (tp w (x % 2 ^ w)).drop w = [] := List.drop_eq_nil_of_le (by rw [tp_len]; exact Nat.le_refl _)
      rw [hd, bel, if_pos (by simpa using hw)]
      rfl
def one (b : Bool) : Nat := if b then 1 else 0
theorem even_all : ((List.range 30).all fun k =>
    let n := k + 1
    let w := wid n
    decide (n ≤ 2 ^ w) && decide (w ≤ 5) && (List.range w).all (fun i => decide (2 ^ i < n)) && decide (tot (fun x => one (decide (res w n x = none))) (2 ^ (2 * w)) = (2 ^ w - n) * (2 ^ w - n))) = true := by decide +kernel
theorem tot_mul (g : Nat → Nat) (b : Nat) : ∀ a, tot g (a * b) = tot (fun q => tot (fun r => g (q * b + r)) b) a
  | 0 => by simp [tot]
  | a + 1 => by rw [Nat.add_mul, Nat.one_mul, tot_add, tot, tot_mul g b a]
theorem tot_pick (d c : Nat) : ∀ k, tot (fun q => if q = d then c else 0) k = if d < k then c else 0
  | 0 => by simp [tot]
  | k + 1 => by
    rw [tot, tot_pick d c k]
    by_cases h : k = d
    · subst h; rw [if_neg (Nat.lt_irrefl _), if_pos rfl, if_pos (Nat.lt_succ_self _)]; omega
    · rw [if_neg h]
      by_cases h2 : d < k
      · rw [if_pos h2, if_pos (by omega)]; rfl
      · rw [if_neg h2, if_neg (by omega)]
theorem even_each (w n d : Nat) (hn : n ≤ 2 ^ w) (hd : d < n) : tot (fun x => one (decide (res w n x = some d))) (2 ^ (2 * w)) = 2 ^ w + (2 ^ w - n) := by
  rw [Nat.two_mul, Nat.pow_add, tot_mul]
  have hp : 0 < 2 ^ w := Nat.two_pow_pos w
  have hin : ∀ q, q < 2 ^ w → tot (fun r => one (decide (res w n (q * 2 ^ w + r) = some d))) (2 ^ w) = if q < n then (if q = d then 2 ^ w else 0) else 1 := fun q _ => by
    have hr : ∀ r, r < 2 ^ w → res w n (q * 2 ^ w + r) = if q < n then some q else if r < n then some r else none := fun r hr => by
      unfold res
      rw [Nat.mul_comm q, Nat.mul_add_div hp, Nat.div_eq_of_lt hr, Nat.add_zero, Nat.mul_add_mod, Nat.mod_eq_of_lt hr]
    by_cases hq : q < n
    · rw [if_pos hq, tot_congr (g := fun _ => if q = d then 1 else 0) (fun r h => by rw [hr r h, if_pos hq]; simp [one]), tot_const]
      by_cases h : q = d
      · rw [if_pos h, if_pos h]; omega
      · rw [if_neg h, if_neg h]; omega
    · rw [if_neg hq, tot_congr (g := fun r => if r = d then 1 else 0) (fun r h => by
        rw [hr r h, if_neg hq]
        by_cases h1 : r < n
        · rw [if_pos h1]; simp [one]
        · rw [if_neg h1, if_neg (by omega)]; simp [one]), tot_pick, if_pos (by omega)]
  rw [tot_congr hin]
  obtain ⟨k, hk⟩ : ∃ k, 2 ^ w = n + k := ⟨2 ^ w - n, by omega⟩
  rw [show tot (fun q => if q < n then (if q = d then 2 ^ w else 0) else 1) (2 ^ w) = tot (fun q => if q < n then (if q = d then 2 ^ w else 0) else 1) (n + k) by rw [← hk], tot_add]
  rw [tot_congr (k := n) (g := fun q => if q = d then 2 ^ w else 0) (fun q h => by rw [if_pos h]), tot_pick, if_pos hd,
    tot_congr (k := k) (g := fun _ => 1) (fun q h => by rw [if_neg (by omega)]), tot_const]
  omega
/-- What the walk is told of tape.Below at all tapes. -/
theorem even_law (n : Nat) (h1 : 1 ≤ n) (h2 : n ≤ 30) :
    wid n ≤ 5 ∧ n ≤ 2 ^ wid n ∧ (∀ i, i < wid n → 2 ^ i < n) ∧
    (∀ x, x < 2 ^ (2 * wid n) → ∀ q, belZ n (tp (2 * wid n) x) = some q → q.1 < n ∧ q.2 ≤ 2 * wid n) ∧
    (∀ d, d < n → tot (fun x => one (decide ((belZ n (tp (2 * wid n) x)).map Prod.fst = some d))) (2 ^ (2 * wid n)) = 2 ^ wid n + (2 ^ wid n - n)) ∧
    tot (fun x => one (decide ((belZ n (tp (2 * wid n) x)).map Prod.fst = none))) (2 ^ (2 * wid n)) = (2 ^ wid n - n) * (2 ^ wid n - n) := by
  have a := List.all_eq_true.1 even_all (n - 1) (List.mem_range.2 (by omega))
  simp only [show n - 1 + 1 = n by omega, Bool.and_eq_true, decide_eq_true_eq, List.all_eq_true, List.mem_range] at a
  obtain ⟨⟨⟨a1, a2⟩, a3⟩, a4⟩ := a
  have hres : ∀ x, x < 2 ^ (2 * wid n) → (belZ n (tp (2 * wid n) x)).map Prod.fst = res (wid n) n x := fun x hx => by
    unfold belZ
    rw [if_pos (by omega), Int.toNat_natCast, tp_len]
    by_cases hw : wid n = 0
    · have hn : n = 1 := by rw [hw] at a1; simp at a1; omega
      subst hn
      rw [show wid 1 = 0 by decide] at hx ⊢
      have : x = 0 := by simpa using hx
      subst this
      decide
    · exact bel_res _ _ _ (by omega) hx (by omega)
  refine ⟨a2, a1, fun i hi => a3 i hi, fun x hx q hq => ?_, fun d hd => ?_, ?_⟩
  · have := belZ_in hq
    rw [tp_len] at this
    omega
  · rw [tot_congr (g := fun x => one (decide (res (wid n) n x = some d))) (fun x hx => by rw [hres x hx])]
    exact even_each _ _ _ a1 hd
  · rw [tot_congr (g := fun x => one (decide (res (wid n) n x = none))) (fun x hx => by rw [hres x hx])]
    exact a4
end Go.Proofs.Ytjcdkajcbefgcaa
