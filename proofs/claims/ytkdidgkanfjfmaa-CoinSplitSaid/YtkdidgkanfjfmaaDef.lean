/- What coin.Toss answers, as a function of the tape. No program in sight. No condition. -/
import Derived.Test.YtkdidgkanfjfmaaTot
set_option linter.unusedSimpArgs false
set_option linter.unusedVariables false
namespace Go.Proofs.Ytkdidgkanfjfmaa
def nxt (d r : Nat) : Nat := if d ≤ 2 * r then 2 * r - d else 2 * r
theorem nxt_lt {d r : Nat} (h : r < d) : nxt d r < d := by unfold nxt; split <;> omega
def tossF (d : Nat) : Nat → List Bool → Option (Bool × Nat)
  | _, [] => none
  | r, b :: t => if b = decide (d ≤ 2 * r) then (if nxt d r = 0 then some (false, 1) else (tossF d (nxt d r) t).map fun q => (q.1, q.2 + 1)) else some (decide (d ≤ 2 * r), 1)
def RightP (num den : Int) : Prop := 1 ≤ den ∧ den ≤ 1099511627776 ∧ 0 ≤ num ∧ num ≤ den
instance (a b : Int) : Decidable (RightP a b) := by unfold RightP; exact inferInstance
def tossN (num den : Nat) (t : List Bool) : Option (Bool × Nat) := if num = den then some (true, 0) else if num = 0 then some (false, 0) else tossF den num t
theorem tossF_in (d : Nat) : ∀ (t : List Bool) (r : Nat) (q : Bool × Nat), tossF d r t = some q → 1 ≤ q.2 ∧ q.2 ≤ t.length
  | [], r, q, h => by cases h
  | b :: t, r, q, h => by
    rw [tossF] at h
    split at h
    · split at h
      · cases h; simp
      · rw [Option.map_eq_some_iff] at h
        obtain ⟨q', h1, rfl⟩ := h
        have := tossF_in d t _ q' h1
        simp; omega
    · cases h; simp
theorem tossN_in {num den : Nat} {t : List Bool} {q : Bool × Nat} (h : tossN num den t = some q) : q.2 ≤ t.length ∧ (q.1 = false → num ≠ 0 → 1 ≤ q.2) := by
  unfold tossN at h
  split at h
  · cases h; exact ⟨Nat.zero_le _, fun h => by cases h⟩
  · split at h
    · cases h; rename_i h1 h2; exact ⟨Nat.zero_le _, fun _ h => absurd h2 h⟩
    · have := tossF_in den t num q h; exact ⟨this.2, fun _ _ => this.1⟩
/-- MORE LIKELY IS NEVER LESS. -/
theorem tossF_more (d d' : Nat) (hd : 0 < d) (hd' : 0 < d') : ∀ (t : List Bool) (r r' u : Nat) (q : Bool × Nat), r * d' ≤ r' * d → tossF d r t = some (true, u) → tossF d' r' t = some q → q.1 = true
  | [], r, r', u, q, _, h, _ => by cases h
  | b :: t, r, r', u, q, hle, h, h' => by
    have hone : d ≤ 2 * r → d' ≤ 2 * r' := fun h1 => by
      refine Nat.le_of_mul_le_mul_right ?_ hd
      have e1 : d * d' ≤ 2 * r * d' := Nat.mul_le_mul_right _ h1
      have e2 : 2 * r * d' = 2 * (r * d') := Nat.mul_assoc _ _ _
      have e3 : 2 * r' * d = 2 * (r' * d) := Nat.mul_assoc _ _ _
      have e4 : d' * d = d * d' := Nat.mul_comm _ _
      omega
    rw [tossF] at h h'
    by_cases h1 : d ≤ 2 * r
    · have h2 := hone h1
      rw [decide_eq_true h1] at h
      rw [decide_eq_true h2] at h'
      cases b
      · rw [if_neg (by decide)] at h'
        cases h'; rfl
      · rw [if_pos rfl] at h h'
        by_cases hz : nxt d r = 0
        · rw [if_pos hz] at h; cases h
        · rw [if_neg hz, Option.map_eq_some_iff] at h
          obtain ⟨p, hp, he⟩ := h
          obtain ⟨p1, p2⟩ := p
          cases he
          have hle2 : nxt d r * d' ≤ nxt d' r' * d := by
            unfold nxt
            rw [if_pos h1, if_pos h2, Nat.sub_mul, Nat.sub_mul, Nat.mul_assoc, Nat.mul_assoc, Nat.mul_comm d' d]
            omega
          by_cases hz' : nxt d' r' = 0
          · rw [hz', Nat.zero_mul] at hle2
            exact absurd (Nat.mul_eq_zero.1 (Nat.le_zero.1 hle2)) (by rintro (h | h) <;> omega)
          · rw [if_neg hz', Option.map_eq_some_iff] at h'
            obtain ⟨p', hp', rfl⟩ := h'
            exact tossF_more d d' hd hd' t _ _ _ p' hle2 hp hp'
    · rw [decide_eq_false h1] at h
      cases b
      · rw [if_pos rfl] at h
        by_cases h2 : d' ≤ 2 * r'
        · rw [decide_eq_true h2, if_neg (by decide)] at h'
          cases h'; rfl
        · rw [decide_eq_false h2, if_pos rfl] at h'
          by_cases hz : nxt d r = 0
          · rw [if_pos hz] at h; cases h
          · rw [if_neg hz, Option.map_eq_some_iff] at h
            obtain ⟨p, hp, he⟩ := h
            obtain ⟨p1, p2⟩ := p
            cases he
            have hle2 : nxt d r * d' ≤ nxt d' r' * d := by
              unfold nxt
              rw [if_neg h1, if_neg h2, Nat.mul_assoc, Nat.mul_assoc]
              omega
            by_cases hz' : nxt d' r' = 0
            · rw [hz', Nat.zero_mul] at hle2
              exact absurd (Nat.mul_eq_zero.1 (Nat.le_zero.1 hle2)) (by rintro (h | h) <;> omega)
            · rw [if_neg hz', Option.map_eq_some_iff] at h'
              obtain ⟨p', hp', rfl⟩ := h'
              exact tossF_more d d' hd hd' t _ _ _ p' hle2 hp hp'
      · rw [if_neg (by decide)] at h
        cases h
theorem tossN_more {n d n' d' : Nat} (hd : 0 < d) (hd' : 0 < d') (hn : n ≤ d) (hn' : n' ≤ d') {t : List Bool} {a b : Bool} {u v : Nat} (hle : n * d' ≤ n' * d)
    (h : tossN n d t = some (a, u)) (h' : tossN n' d' t = some (b, v)) : (!a || b) = true := by
  cases a
  · rfl
  · unfold tossN at h h'
    have hb : b = true := by
      by_cases e1 : n' = d'
      · rw [if_pos e1] at h'; cases h'; rfl
      · rw [if_neg e1] at h'
        by_cases e2 : n = d
        · exfalso
          rw [e2, Nat.mul_comm d d'] at hle
          have := Nat.le_of_mul_le_mul_right hle hd
          omega
        · rw [if_neg e2] at h
          by_cases e3 : n = 0
          · rw [if_pos e3] at h; cases h
          · rw [if_neg e3] at h
            by_cases e4 : n' = 0
            · exfalso
              rw [e4, Nat.zero_mul] at hle
              exact absurd (Nat.mul_eq_zero.1 (Nat.le_zero.1 hle)) (by rintro (h | h) <;> omega)
            · rw [if_neg e4] at h'
              exact tossF_more d d' hd hd' t n n' u (b, v) hle h h'
    rw [hb]; rfl
/-- NO IS AS LIKELY AS THE REST. -/
theorem tossF_not (d : Nat) : ∀ (t : List Bool) (r : Nat), 0 < r → r < d → tossF d (d - r) (t.map (!·)) = (tossF d r t).map fun q => (!q.1, q.2)
  | [], r, _, _ => rfl
  | b :: t, r, h0, h1 => by
    rw [List.map_cons, tossF, tossF]
    by_cases he : 2 * r = d
    · have e1 : decide (d ≤ 2 * r) = true := decide_eq_true (by omega)
      have e2 : decide (d ≤ 2 * (d - r)) = true := decide_eq_true (by omega)
      have e3 : nxt d r = 0 := by unfold nxt; rw [if_pos (by omega)]; omega
      have e4 : nxt d (d - r) = 0 := by unfold nxt; rw [if_pos (by omega)]; omega
      rw [e1, e2, e3, e4]
      cases b <;> rfl
    · by_cases h : d ≤ 2 * r
      · have e2 : decide (d ≤ 2 * (d - r)) = false := decide_eq_false (by omega)
        have e3 : nxt d r = 2 * r - d := by unfold nxt; rw [if_pos h]
        have e4 : nxt d (d - r) = d - (2 * r - d) := by unfold nxt; rw [if_neg (by omega)]; omega
        rw [decide_eq_true h, e2, e3, e4]
        cases b
        · rfl
        · rw [if_pos (show (!true) = false from rfl), if_pos rfl, if_neg (by omega), if_neg (by omega), tossF_not d t _ (by omega) (by omega), Option.map_map, Option.map_map]; rfl
      · have e2 : decide (d ≤ 2 * (d - r)) = true := decide_eq_true (by omega)
        have e3 : nxt d r = 2 * r := by unfold nxt; rw [if_neg h]
        have e4 : nxt d (d - r) = d - 2 * r := by unfold nxt; rw [if_pos (by omega)]; omega
        rw [decide_eq_false h, e2, e3, e4]
        cases b
        · rw [if_pos (show (!false) = true from rfl), if_pos rfl, if_neg (by omega), if_neg (by omega), tossF_not d t _ (by omega) (by omega), Option.map_map, Option.map_map]; rfl
        · rfl
theorem tossN_not {n d : Nat} (hd : 0 < d) (hn : n ≤ d) (t : List Bool) : tossN (d - n) d (t.map (!·)) = (tossN n d t).map fun q => (!q.1, q.2) := by
  unfold tossN
  by_cases e1 : n = d
  · rw [if_pos e1, if_neg (by omega), if_pos (by omega)]; rfl
  · by_cases e2 : n = 0
    · rw [if_pos (by omega), if_neg e1, if_pos e2]; rfl
    · rw [if_neg (by omega), if_neg (by omega), if_neg e1, if_neg e2, tossF_not d t n (by omega) (by omega)]
/-! ### All tapes of one length -/
def yes : Option (Bool × Nat) → Nat
  | some (true, _) => 1
  | _ => 0
def nos : Option (Bool × Nat) → Nat
  | some (false, _) => 1
  | _ => 0
def ends : Option (Bool × Nat) → Nat
  | none => 1
  | _ => 0
theorem three (o : Option (Bool × Nat)) : yes o + nos o + ends o = 1 := by
  cases o with
  | none => rfl
  | some q => obtain ⟨a, u⟩ := q; cases a <;> rfl
theorem all_tossF (d : Nat) (hd : 0 < d) : ∀ (n r : Nat), 0 < r → r < d →
    tot (fun x => yes (tossF d r (tp n x))) (2 ^ n) = r * 2 ^ n / d ∧ tot (fun x => ends (tossF d r (tp n x))) (2 ^ n) = if r * 2 ^ n % d = 0 then 0 else 1
  | 0, r, h0, h1 => by
    simp only [tp_zero, Nat.pow_zero, tot, tossF, Nat.mul_one, Nat.div_eq_of_lt h1, Nat.mod_eq_of_lt h1]
    exact ⟨rfl, by rw [if_neg (by omega)]; rfl⟩
  | n + 1, r, h0, h1 => by
    have hp : 0 < 2 ^ n := Nat.two_pow_pos n
    have y1 : ∀ o : Option (Bool × Nat), yes (o.map fun q => (q.1, q.2 + 1)) = yes o := fun o => by
      cases o with
      | none => rfl
      | some q => obtain ⟨a, u⟩ := q; cases a <;> rfl
    have e1 : ∀ o : Option (Bool × Nat), ends (o.map fun q => (q.1, q.2 + 1)) = ends o := fun o => by cases o <;> rfl
    rw [tot_tapes (fun t => yes (tossF d r t)), tot_tapes (fun t => ends (tossF d r t))]
    have hmul : r * 2 ^ (n + 1) = 2 * r * 2 ^ n := by rw [Nat.pow_succ, Nat.mul_comm (2 ^ n) 2, ← Nat.mul_assoc, Nat.mul_comm r 2]
    rw [hmul]
    by_cases h : d ≤ 2 * r
    · have c0 : ∀ t, tossF d r (false :: t) = some (true, 1) := fun t => by rw [tossF, decide_eq_true h]; rfl
      have hx : 2 * r * 2 ^ n = nxt d r * 2 ^ n + d * 2 ^ n := by rw [← Nat.add_mul]; congr 1; unfold nxt; rw [if_pos h]; omega
      rw [hx, Nat.add_mul_div_left _ _ hd, Nat.add_mul_mod_self_left]
      by_cases hz : nxt d r = 0
      · have c1 : ∀ t, tossF d r (true :: t) = some (false, 1) := fun t => by rw [tossF, decide_eq_true h, if_pos rfl, if_pos hz]
        simp only [c0, c1, yes, ends, tot_const, hz]
        simp
      · have c1 : ∀ t, tossF d r (true :: t) = (tossF d (nxt d r) t).map fun q => (q.1, q.2 + 1) := fun t => by rw [tossF, decide_eq_true h, if_pos rfl, if_neg hz]
        have ih := all_tossF d hd n (nxt d r) (by omega) (nxt_lt h1)
        simp only [c0, c1, y1, e1, ih.1, ih.2]
        simp only [yes, ends, tot_const]
        constructor <;> omega
    · have c1 : ∀ t, tossF d r (true :: t) = some (false, 1) := fun t => by rw [tossF, decide_eq_false h]; rfl
      have hz : nxt d r = 2 * r := by unfold nxt; rw [if_neg h]
      have c0 : ∀ t, tossF d r (false :: t) = (tossF d (nxt d r) t).map fun q => (q.1, q.2 + 1) := fun t => by rw [tossF, decide_eq_false h, if_pos rfl, if_neg (by omega)]
      have ih := all_tossF d hd n (nxt d r) (by omega) (nxt_lt h1)
      simp only [c0, c1, y1, e1, ih.1, ih.2]
      simp only [yes, ends, tot_const, hz]
      constructor <;> omega
theorem all_tossN (num d : Nat) (hd : 0 < d) (hn : num ≤ d) (n : Nat) :
    tot (fun x => yes (tossN num d (tp n x))) (2 ^ n) = num * 2 ^ n / d ∧ tot (fun x => ends (tossN num d (tp n x))) (2 ^ n) = if num * 2 ^ n % d = 0 then 0 else 1 := by
  by_cases e1 : num = d
  · have h : ∀ t, tossN num d t = some (true, 0) := fun t => by unfold tossN; rw [if_pos e1]
    simp only [h, yes, ends, tot_const]
    subst e1
    rw [Nat.mul_div_cancel_left _ hd, Nat.mul_mod_right, if_pos rfl]; simp
  · by_cases e2 : num = 0
    · have h : ∀ t, tossN num d t = some (false, 0) := fun t => by unfold tossN; rw [if_neg e1, if_pos e2]
      simp only [h, yes, ends, tot_const]
      subst e2
      simp
    · have h : ∀ t, tossN num d t = tossF d num t := fun t => by unfold tossN; rw [if_neg e1, if_neg e2]
      simp only [h]
      exact all_tossF d hd n num (by omega) (by omega)
/-! ### coin.Turn, coin.Of -/
def turnF (num den : Nat) : Nat → List Bool → Option (Nat × Nat)
  | 0, _ => none
  | f + 1, t => match tossN num den t with
    | none => none
    | some (true, u) => some (1, u)
    | some (false, u) => (turnF num den f (t.drop u)).map fun q => (q.1 + 1, q.2 + u)
theorem turnF_in {num den : Nat} : ∀ (f : Nat) (t : List Bool) (q : Nat × Nat), turnF num den f t = some q → 1 ≤ q.1 ∧ q.2 ≤ t.length
  | 0, t, q, h => by cases h
  | f + 1, t, q, h => by
    rw [turnF] at h
    cases hb : tossN num den t with
    | none => rw [hb] at h; cases h
    | some p =>
      obtain ⟨a, u⟩ := p
      have hu := (tossN_in hb).1
      rw [hb] at h
      cases a
      · simp only [Option.map_eq_some_iff] at h
        obtain ⟨q', h1, rfl⟩ := h
        have := turnF_in f _ q' h1
        rw [List.length_drop] at this
        simp only at hu ⊢
        omega
      · cases h; exact ⟨Nat.le_refl _, hu⟩
def ofF : Nat → Nat → List Nat → List Bool → Option (Nat × Nat)
  | _, _, [], _ => none
  | k, s, w :: ws, t => match tossN w s t with
    | none => none
    | some (true, u) => some (k, u)
    | some (false, u) => (ofF (k + 1) (s - w) ws (t.drop u)).map fun q => (q.1, q.2 + u)
end Go.Proofs.Ytkdidgkanfjfmaa
