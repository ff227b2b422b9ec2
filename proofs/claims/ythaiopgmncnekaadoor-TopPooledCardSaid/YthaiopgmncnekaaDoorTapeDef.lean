/- What tape.Below, Many and Fair answer, as functions of the tape. No program in sight but for lists of bits. No condition. -/
import Derived.Test.YthaiopgmncnekaaDoorTapeBl
import Derived.Lib.BitFns
set_option linter.unusedSimpArgs false
set_option linter.unusedVariables false
set_option maxRecDepth 20000
namespace Go.Proofs.YthaiopgmncnekaaDoor.Tape
/-- A number of bits, the greatest first. -/
def num (acc : Nat) : List Bool → Nat
  | [] => acc
  | b :: t => num (2 * acc + if b then 1 else 0) t
theorem num_le : ∀ (t : List Bool) (acc : Nat), acc * 2 ^ t.length ≤ num acc t ∧ num acc t < (acc + 1) * 2 ^ t.length
  | [], acc => by simp [num]
  | b :: t, acc => by
    have h := num_le t (2 * acc + if b then 1 else 0)
    rw [num, List.length_cons, Nat.pow_succ]
    have e1 : acc * (2 ^ t.length * 2) = 2 * acc * 2 ^ t.length := by rw [Nat.mul_comm (2 ^ _) 2, ← Nat.mul_assoc, Nat.mul_comm acc 2]
    have e2 : (acc + 1) * (2 ^ t.length * 2) = (2 * acc + 2) * 2 ^ t.length := by rw [Nat.mul_comm (2 ^ _) 2, ← Nat.mul_assoc]; congr 1; omega
    have h1 : 2 * acc * 2 ^ t.length ≤ (2 * acc + if b then 1 else 0) * 2 ^ t.length := Nat.mul_le_mul_right _ (by omega)
    have h2 : (2 * acc + (if b then 1 else 0) + 1) * 2 ^ t.length ≤ (2 * acc + 2) * 2 ^ t.length := Nat.mul_le_mul_right _ (by split <;> omega)
    omega
theorem num_append (xs ys : List Bool) : ∀ acc, num acc (xs ++ ys) = num (num acc xs) ys := by
  induction xs with
  | nil => intro acc; rfl
  | cons b t ih => intro acc; rw [List.cons_append, num, num, ih]
/-- The draw below n, w bits each. -/
def bel (w n : Nat) : Nat → List Bool → Option (Nat × Nat)
  | 0, _ => none
  | f + 1, t => if t.length < w then none else if num 0 (t.take w) < n then some (num 0 (t.take w), w) else (bel w n f (t.drop w)).map fun q => (q.1, q.2 + w)
theorem bel_fuel {w n : Nat} (hn : 0 < n) : ∀ (f f' : Nat) (t : List Bool), t.length < f → t.length < f' → bel w n f t = bel w n f' t
  | 0, _, t, h, _ => absurd h (Nat.not_lt_zero _)
  | _ + 1, 0, t, _, h => absurd h (Nat.not_lt_zero _)
  | f + 1, f' + 1, t, h1, h2 => by
    rw [bel, bel]
    by_cases hl : t.length < w
    · rw [if_pos hl, if_pos hl]
    · rw [if_neg hl, if_neg hl]
      by_cases hx : num 0 (t.take w) < n
      · rw [if_pos hx, if_pos hx]
      · rw [if_neg hx, if_neg hx]
        have hw : 0 < w := by
          rcases Nat.eq_zero_or_pos w with rfl | h
          · simp [num] at hx; omega
          · exact h
        rw [bel_fuel hn f f' (t.drop w) (by rw [List.length_drop]; omega) (by rw [List.length_drop]; omega)]
theorem bel_in {w n : Nat} : ∀ (f : Nat) (t : List Bool) (q : Nat × Nat), bel w n f t = some q → q.1 < n ∧ q.2 ≤ t.length ∧ ∀ more f', (t.take q.2 ++ more).length < f' → 0 < n → bel w n f' (t.take q.2 ++ more) = some q
  | 0, t, q, h => by cases h
  | f + 1, t, q, h => by
    rw [bel] at h
    by_cases hl : t.length < w
    · rw [if_pos hl] at h; cases h
    · rw [if_neg hl] at h
      by_cases hx : num 0 (t.take w) < n
      · rw [if_pos hx] at h
        cases h
        refine ⟨hx, by simp; omega, fun more f' hf _ => ?_⟩
        obtain ⟨f', rfl⟩ : ∃ g, f' = g + 1 := ⟨f' - 1, by omega⟩
        have e : (t.take w ++ more).take w = t.take w := by rw [List.take_append, List.take_take, Nat.min_self, List.length_take, show w - min w t.length = 0 by omega, List.take_zero, List.append_nil]
        rw [bel, if_neg (by rw [List.length_append, List.length_take]; omega), e, if_pos hx]
      · rw [if_neg hx, Option.map_eq_some_iff] at h
        obtain ⟨q', h1, rfl⟩ := h
        obtain ⟨i1, i2, i3⟩ := bel_in f (t.drop w) q' h1
        rw [List.length_drop] at i2
        refine ⟨i1, by simp; omega, fun more f' hf hn => ?_⟩
        obtain ⟨f', rfl⟩ : ∃ g, f' = g + 1 := ⟨f' - 1, by omega⟩
        have hw : 0 < w := by
          rcases Nat.eq_zero_or_pos w with rfl | h
          · simp [num] at hx; omega
          · exact h
        have hsp : t.take (q'.2 + w) = t.take w ++ (t.drop w).take q'.2 := by rw [Nat.add_comm, List.take_add]
        have hlen : (t.take w).length = w := by rw [List.length_take]; omega
        have e : (t.take (q'.2 + w) ++ more).take w = t.take w := by
          rw [hsp, List.append_assoc, List.take_append_of_le_length (by omega), List.take_take, Nat.min_self]
        have e2 : (t.take (q'.2 + w) ++ more).drop w = (t.drop w).take q'.2 ++ more := by
          rw [hsp, List.append_assoc, List.drop_append_of_le_length (by omega), List.drop_take, show w - w = 0 by omega, List.take_zero, List.nil_append]
        simp only
        rw [bel, if_neg (by rw [List.length_append, List.length_take]; omega), e, if_neg hx, e2,
          i3 more f' (by
            simp only [List.length_append, List.length_take] at hf ⊢
            rw [List.length_drop]; omega) hn]
        rfl
/-- The number of bits of a number below n. -/
def wid (n : Nat) : Nat := Lib.bitLen (n - 1)
def belZ (n : Int) (t : List Bool) : Option (Nat × Nat) := if 1 ≤ n ∧ n ≤ 1099511627776 then bel (wid n.toNat) n.toNat (t.length + 1) t else none
theorem belZ_in {n : Int} {t : List Bool} {q : Nat × Nat} (h : belZ n t = some q) : 1 ≤ n ∧ n ≤ 1099511627776 ∧ (q.1 : Int) < n ∧ q.2 ≤ t.length ∧ ∀ more, belZ n (t.take q.2 ++ more) = some q := by
  unfold belZ at h
  split at h
  · rename_i hn
    obtain ⟨h1, h2, h3⟩ := bel_in _ _ _ h
    refine ⟨hn.1, hn.2, by omega, h2, fun more => ?_⟩
    unfold belZ
    rw [if_pos hn]
    exact h3 more _ (Nat.lt_succ_self _) (by omega)
  · cases h
def many : List Int → List Bool → Option (List Int × Nat)
  | [], _ => some ([], 0)
  | n :: ns, t => (belZ n t).bind fun q => (many ns (t.drop q.2)).map fun r => ((q.1 : Int) :: r.1, q.2 + r.2)
theorem many_append (b : List Int) : ∀ (a : List Int) (t : List Bool), many (a ++ b) t = (many a t).bind fun y => (many b (t.drop y.2)).map fun z => (y.1 ++ z.1, y.2 + z.2)
  | [], t => by simp [many]
  | n :: a, t => by
    rw [List.cons_append, many, many]
    cases h : belZ n t with
    | none => rfl
    | some q =>
      simp only [Option.bind_some]
      rw [many_append b a]
      cases h2 : many a (t.drop q.2) with
      | none => rfl
      | some y =>
        simp only [Option.bind_some, Option.map_some, List.drop_drop]
        cases h3 : many b (t.drop (q.2 + y.2)) with
        | none => simp
        | some z => simp [Nat.add_assoc]
theorem many_in : ∀ (a : List Int) (t : List Bool) (q : List Int × Nat), many a t = some q → q.2 ≤ t.length ∧ q.1.length = a.length
  | [], t, q, h => by cases h; exact ⟨Nat.zero_le _, rfl⟩
  | n :: a, t, q, h => by
    rw [many] at h
    cases hb : belZ n t with
    | none => rw [hb] at h; cases h
    | some r =>
      rw [hb, Option.bind_some, Option.map_eq_some_iff] at h
      obtain ⟨y, h1, rfl⟩ := h
      have := many_in a _ y h1
      have h2 := (belZ_in hb).2.2.2.1
      rw [List.length_drop] at this
      simp only [List.length_cons]
      omega
def fairF : List Bool → Option (Bool × Nat)
  | a :: b :: t => if a = b then (fairF t).map fun q => (q.1, q.2 + 2) else some (a, 2)
  | [_] => none
  | [] => none
end Go.Proofs.YthaiopgmncnekaaDoor.Tape
