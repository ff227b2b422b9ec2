/- Lines of words and numbers: what is written is read again. Plain, over bytes. No condition. -/
import Derived.Lib.AtoiAll
import Derived.Lib.ItoaMem
import Derived.Lib.Split
import Derived.Lib.IndexBytes
set_option linter.unusedSimpArgs false
set_option linter.unusedVariables false
set_option maxRecDepth 20000
namespace Go.Proofs.YthaiopgmncnekaaGreatDoor
/-! ### Cut at a byte -/
def cutAt (c : UInt8) : List UInt8 → Option (List UInt8 × List UInt8)
  | [] => none
  | b :: r => if b = c then some ([], r) else match cutAt c r with
    | some (a, d) => some (b :: a, d)
    | none => none
theorem cutAt_some (c : UInt8) : ∀ {l a d : List UInt8}, cutAt c l = some (a, d) ↔ l = a ++ c :: d ∧ c ∉ a
  | [], a, d => by
    constructor
    · intro h; cases h
    · rintro ⟨h, -⟩; cases a <;> simp at h
  | b :: r, a, d => by
    rw [cutAt]
    by_cases e : b = c
    · subst e
      rw [if_pos rfl]
      constructor
      · intro h; injection h with h; injection h with h1 h2; subst h1 h2; exact ⟨rfl, by simp⟩
      · rintro ⟨h1, h2⟩
        cases a with
        | nil => injection h1 with _ h1; subst h1; rfl
        | cons x a => injection h1 with h3 h1; subst h3; simp at h2
    · rw [if_neg e]
      constructor
      · intro h
        cases hr : cutAt c r with
        | none => rw [hr] at h; cases h
        | some p =>
          obtain ⟨a', d'⟩ := p
          rw [hr] at h
          injection h with h; injection h with h1 h2; subst h1 h2
          obtain ⟨g1, g2⟩ := (cutAt_some c).1 hr
          exact ⟨by rw [g1]; rfl, by simp [g2]; exact fun h => e h.symm⟩
      · rintro ⟨h1, h2⟩
        cases a with
        | nil => injection h1 with h3 h1; exact absurd h3 e
        | cons x a =>
          injection h1 with h3 h1
          subst h3
          have := (cutAt_some c (l := r) (a := a) (d := d)).2 ⟨h1, fun h => h2 (List.mem_cons_of_mem _ h)⟩
          rw [this]
theorem cutAt_none (c : UInt8) : ∀ {l : List UInt8}, cutAt c l = none ↔ c ∉ l
  | [] => by simp [cutAt]
  | b :: r => by
    rw [cutAt]
    by_cases e : b = c
    · subst e; simp
    · rw [if_neg e]
      cases hr : cutAt c r with
      | none =>
        have := (cutAt_none c).1 hr
        simp [this]
        exact fun h => e h.symm
      | some p =>
        obtain ⟨a, d⟩ := p
        obtain ⟨g1, g2⟩ := (cutAt_some c).1 hr
        simp [g1]
theorem index_cut (c : UInt8) : ∀ l : List UInt8, Lib.index l [c] = match cutAt c l with
    | some (a, _) => (a.length : Int)
    | none => -1
  | [] => by simp [Lib.index, cutAt]
  | b :: r => by
    have ih := index_cut c r
    unfold Lib.index cutAt
    by_cases e : b = c
    · subst e; simp [List.isPrefixOf]
    · have e2 : ([c].isPrefixOf (b :: r)) = false := by simp [List.isPrefixOf]; exact fun h => e h.symm
      rw [e2, if_neg e]
      cases hr : cutAt c r with
      | none => rw [hr] at ih; simp [ih]
      | some p =>
        obtain ⟨a, d⟩ := p
        rw [hr] at ih
        rw [ih]
        have : ((a.length : Int) == -1) = false := by rw [beq_eq_false_iff_ne]; omega
        simp [this]
theorem lib_cut (c : UInt8) (l : List UInt8) : Lib.cut l [c] = match cutAt c l with
    | some (a, d) => (a, d, true)
    | none => (l, [], false) := by
  unfold Lib.cut
  rw [index_cut]
  cases hr : cutAt c l with
  | none => rw [if_neg (by decide)]
  | some p =>
    obtain ⟨a, d⟩ := p
    obtain ⟨g1, g2⟩ := (cutAt_some c).1 hr
    rw [if_pos (by show (0 : Int) ≤ a.length; omega)]
    show (l.take (a.length : Int).toNat, l.drop ((a.length : Int).toNat + 1), true) = _
    rw [Int.toNat_natCast, g1]
    rw [List.take_left' rfl, show a ++ c :: d = (a ++ [c]) ++ d by simp, List.drop_left' (by simp)]
/-! ### Words -/
/-- Cut at each c. -/
def words (c : UInt8) : Nat → List UInt8 → List (List UInt8)
  | 0, l => [l]
  | k + 1, l => match cutAt c l with
    | some (a, d) => a :: words c k d
    | none => [l]
theorem count_cut (c : UInt8) (l : List UInt8) : Lib.count l [c] = match cutAt c l with
    | some (_, d) => 1 + Lib.count d [c]
    | none => 0 := by
  have hi := index_cut c l
  cases hr : cutAt c l with
  | none => rw [hr] at hi; exact Lib.count_miss hi
  | some p =>
    obtain ⟨a, d⟩ := p
    rw [hr] at hi
    obtain ⟨g1, g2⟩ := (cutAt_some c).1 hr
    rw [Lib.count_hit (by simp) hi]
    show 1 + Lib.count (l.drop (a.length + 1)) [c] = _
    rw [g1, show a ++ c :: d = (a ++ [c]) ++ d by simp, List.drop_left' (by simp)]
theorem count_eq (c : UInt8) : ∀ (n : Nat) (l : List UInt8), l.length ≤ n → Lib.count l [c] = l.count c
  | 0, l, h => by
    have : l = [] := List.eq_nil_of_length_eq_zero (by omega)
    subst this
    rw [count_cut]; rfl
  | n + 1, l, h => by
    rw [count_cut]
    cases hr : cutAt c l with
    | none => exact (List.count_eq_zero.2 ((cutAt_none c).1 hr)).symm
    | some p =>
      obtain ⟨a, d⟩ := p
      obtain ⟨g1, g2⟩ := (cutAt_some c).1 hr
      subst g1
      show 1 + Lib.count d [c] = _
      rw [count_eq c n d (by simp at h; omega), List.count_append, List.count_eq_zero.2 g2, List.count_cons_self]
      omega
theorem split_words (c : UInt8) : ∀ (k : Nat) (l : List UInt8), Lib.splitK [c] 0 k l = words c k l
  | 0, l => rfl
  | k + 1, l => by
    unfold Lib.splitK words
    rw [index_cut]
    cases hr : cutAt c l with
    | none => rfl
    | some p =>
      obtain ⟨a, d⟩ := p
      obtain ⟨g1, g2⟩ := (cutAt_some c).1 hr
      have : ((a.length : Int) == -1) = false := by rw [beq_eq_false_iff_ne]; omega
      show (if ((a.length : Int) == -1) = true then [l] else _) = _
      rw [this]
      show l.take ((a.length : Int).toNat + 0) :: Lib.splitK [c] 0 k (l.drop ((a.length : Int).toNat + 1)) = a :: words c k d
      rw [Int.toNat_natCast, split_words c k, Nat.add_zero, g1, List.take_left' rfl, show a ++ c :: d = (a ++ [c]) ++ d by simp, List.drop_left' (by simp)]
/-- Words with c between them. -/
def glue (c : UInt8) : List (List UInt8) → List UInt8
  | [] => []
  | a :: r => a ++ (r.map fun x => c :: x).flatten
theorem words_glue (c : UInt8) : ∀ (k : Nat) (l : List UInt8), l.count c = k → glue c (words c k l) = l ∧ (words c k l).length = k + 1 ∧ ∀ x ∈ words c k l, c ∉ x
  | 0, l, h => by
    refine ⟨by simp [words, glue], rfl, fun x hx => ?_⟩
    simp [words] at hx; subst hx
    exact List.count_eq_zero.1 h
  | k + 1, l, h => by
    unfold words
    cases hr : cutAt c l with
    | none => rw [List.count_eq_zero.2 ((cutAt_none c).1 hr)] at h; omega
    | some p =>
      obtain ⟨a, d⟩ := p
      obtain ⟨g1, g2⟩ := (cutAt_some c).1 hr
      subst g1
      rw [List.count_append, List.count_eq_zero.2 g2, List.count_cons_self] at h
      obtain ⟨h1, h2, h3⟩ := words_glue c k d (by omega)
      refine ⟨?_, by simp [h2], fun x hx => ?_⟩
      · show a ++ ((words c k d).map fun x => c :: x).flatten = _
        cases hw : words c k d with
        | nil => rw [hw] at h2; simp at h2
        | cons y ys =>
          rw [hw] at h1
          rw [← h1]
          simp [glue]
      · rcases List.mem_cons.1 hx with rfl | hx
        · exact g2
        · exact h3 x hx
theorem glue_words (c : UInt8) : ∀ (w : List (List UInt8)), w ≠ [] → (∀ x ∈ w, c ∉ x) → words c ((glue c w).count c) (glue c w) = w ∧ (glue c w).count c + 1 = w.length
  | [], h, _ => absurd rfl h
  | [a], _, h => by
    have ha := h a (by simp)
    simp [glue, List.count_eq_zero.2 ha, words]
  | a :: b :: r, _, h => by
    have ha := h a (by simp)
    obtain ⟨h1, h2⟩ := glue_words c (b :: r) (by simp) (fun x hx => h x (List.mem_cons_of_mem _ hx))
    have e : glue c (a :: b :: r) = a ++ c :: glue c (b :: r) := by simp [glue]
    have ec : (glue c (a :: b :: r)).count c = (glue c (b :: r)).count c + 1 := by
      rw [e, List.count_append, List.count_eq_zero.2 ha, List.count_cons_self]; omega
    refine ⟨?_, by rw [ec, h2]; rfl⟩
    rw [ec, words, e, (cutAt_some c (l := a ++ c :: glue c (b :: r))).2 ⟨rfl, ha⟩]
    show a :: _ = _
    rw [h1]
/-! ### Numerals -/
theorem digit_mem {u : Nat} : ∀ b ∈ Lib.decDigits u, 48 ≤ b.toNat ∧ b.toNat ≤ 57 := by
  induction u using Nat.strongRecOn with
  | _ u ih =>
    intro b hb
    rw [Lib.decDigits] at hb
    have hof : ∀ d, d < 10 → (UInt8.ofNat (48 + d)).toNat = 48 + d := fun d hd => by
      rw [UInt8.toNat_ofNat']; omega
    split at hb
    · rename_i h
      have hb := List.mem_singleton.1 hb
      subst hb
      rw [hof u h]; omega
    · rename_i h
      rcases List.mem_append.1 hb with hb | hb
      · exact ih (u / 10) (by omega) b hb
      · have hb := List.mem_singleton.1 hb
        subst hb
        rw [hof _ (Nat.mod_lt _ (by decide))]; omega
theorem decDigits_ne (u : Nat) : Lib.decDigits u ≠ [] := by
  rw [Lib.decDigits]; split <;> simp
theorem parse_app : ∀ (l m : List UInt8) (acc u : Nat), Lib.parseUint10 acc l = .ok u → Lib.parseUint10 acc (l ++ m) = Lib.parseUint10 u m
  | [], m, acc, u, h => by
    simp only [Lib.parseUint10] at h
    injection h with h; subst h; rfl
  | c :: r, m, acc, u, h => by
    simp only [List.cons_append, Lib.parseUint10] at h ⊢
    split at h
    · rename_i h1
      rw [if_pos h1]
      split at h
      · cases h
      · rename_i h2
        rw [if_neg h2]
        split at h
        · cases h
        · rename_i h3
          rw [if_neg h3]
          exact parse_app r m _ u h
    · cases h
theorem parse_dec : ∀ u : Nat, u ≤ 1099511627776 → Lib.parseUint10 0 (Lib.decDigits u) = .ok u := by
  intro u
  induction u using Nat.strongRecOn with
  | _ u ih =>
    intro hu
    have hof : ∀ d, d < 10 → (UInt8.ofNat (48 + d)).toNat = 48 + d := fun d hd => by
      rw [UInt8.toNat_ofNat']; omega
    have one : ∀ acc d, d < 10 → acc ≤ 1099511627776 → Lib.parseUint10 acc [UInt8.ofNat (48 + d)] = .ok (acc * 10 + d) := fun acc d hd ha => by
      simp only [Lib.parseUint10]
      rw [hof d hd, if_pos (by omega), if_neg (by omega), if_neg (by omega)]
      congr 1; omega
    rw [Lib.decDigits]
    split
    · rename_i h
      rw [one 0 u h (by omega)]; congr 1; omega
    · rename_i h
      rw [parse_app _ _ 0 (u / 10) (ih (u / 10) (by omega) (by omega)), one (u / 10) (u % 10) (Nat.mod_lt _ (by decide)) (by omega)]
      congr 1; omega
theorem atoi_itoa (u : Nat) (h : u ≤ 1099511627776) : Lib.atoiAll (Lib.itoa u) = .ok (u : Int) := by
  rw [Lib.itoa_nonneg]
  have hp := parse_dec u h
  have hm := fun b hb => digit_mem (u := u) b hb
  have hne := decDigits_ne u
  generalize Lib.decDigits u = l at *
  cases l with
  | nil => exact absurd rfl hne
  | cons c r =>
    have hc := hm c (by simp)
    unfold Lib.atoiAll
    have e1 : ¬ (c.toNat = 43 ∨ c.toNat = 45) := by omega
    have e2 : ¬ c.toNat = 45 := by omega
    simp only [if_neg e1, if_neg e2]
    unfold Lib.parseMag
    rw [if_neg (by simp), hp]
    have e3 : ¬ (9223372036854775808 : Nat) ≤ u := by omega
    simp [e2, e3]
def num (n : Nat) : List UInt8 := Lib.itoa (n : Int)
theorem num_free (n : Nat) : (32 : UInt8) ∉ num n ∧ (10 : UInt8) ∉ num n := by
  unfold num
  rw [Lib.itoa_nonneg]
  constructor <;> (intro h; have := digit_mem _ h; revert this; decide)
def big : Nat := 1099511627776
/-- The number that a word spells, just as it would be written. -/
def numOf (s : List UInt8) : Option Nat := match Lib.atoiAll s with
  | .ok n => if 0 ≤ n ∧ n ≤ 1099511627776 ∧ Lib.itoa n = s then some n.toNat else none
  | _ => none
theorem numOf_some {s : List UInt8} {n : Nat} : numOf s = some n ↔ n ≤ big ∧ s = num n := by
  unfold numOf big
  constructor
  · intro h
    split at h
    · rename_i v hv
      split at h
      · rename_i hc
        injection h with h
        subst h
        obtain ⟨h0, h1, h2⟩ := hc
        refine ⟨by omega, ?_⟩
        unfold num
        rw [show ((v.toNat : Nat) : Int) = v by omega, h2]
      · cases h
    · cases h
  · rintro ⟨h1, rfl⟩
    unfold num
    rw [atoi_itoa n h1]
    simp only
    rw [if_pos ⟨by omega, by omega, by trivial⟩]
    simp
/-- The numbers of words, if all are numbers. -/
def numsOf : List (List UInt8) → Option (List Nat)
  | [] => some []
  | s :: r => match numOf s, numsOf r with
    | some n, some l => some (n :: l)
    | _, _ => none
theorem numsOf_some : ∀ {ws : List (List UInt8)} {ns : List Nat}, numsOf ws = some ns ↔ (∀ n ∈ ns, n ≤ big) ∧ ws = ns.map num
  | [], ns => by
    constructor
    · intro h; injection h with h; subst h; simp
    · rintro ⟨h1, h2⟩; cases ns <;> simp at h2; rfl
  | s :: r, ns => by
    unfold numsOf
    cases h1 : numOf s with
    | none =>
      constructor
      · intro h; cases h
      · rintro ⟨g1, g2⟩
        cases ns with
        | nil => simp at g2
        | cons n ns =>
          injection g2 with g2 g3
          have := numOf_some.2 ⟨g1 n (by simp), g2⟩
          rw [h1] at this; cases this
    | some m =>
      obtain ⟨k1, k2⟩ := numOf_some.1 h1
      cases h2 : numsOf r with
      | none =>
        constructor
        · intro h; cases h
        · rintro ⟨g1, g2⟩
          cases ns with
          | nil => simp at g2
          | cons n ns =>
            injection g2 with g2 g3
            have := (numsOf_some (ns := ns)).2 ⟨fun x hx => g1 x (by simp [hx]), g3⟩
            rw [h2] at this; cases this
      | some l =>
        obtain ⟨l1, l2⟩ := numsOf_some.1 h2
        constructor
        · intro h; injection h with h; subst h
          exact ⟨fun x hx => by rcases List.mem_cons.1 hx with rfl | hx; exact k1; exact l1 x hx, by rw [k2, l2]; rfl⟩
        · rintro ⟨g1, g2⟩
          cases ns with
          | nil => simp at g2
          | cons n ns =>
            injection g2 with g2 g3
            have e1 := numOf_some.2 ⟨g1 n (by simp), g2⟩
            rw [h1] at e1
            injection e1 with e1
            have e2 := (numsOf_some (ns := ns)).2 ⟨fun x hx => g1 x (by simp [hx]), g3⟩
            rw [h2] at e2
            injection e2 with e2
            subst e1 e2; rfl
/-- A line: a word and numbers. -/
def line (word : List UInt8) (ns : List Nat) : List UInt8 := glue 32 (word :: ns.map num)
/-- What numbers(line, word, many) answers. -/
def nums (l word : List UInt8) (many : Nat) : Option (List Nat) := match words 32 (l.count 32) l with
  | w :: ws => if ws.length = many ∧ w = word then numsOf ws else none
  | [] => none
theorem nums_some {l word : List UInt8} {many : Nat} (hw : (32 : UInt8) ∉ word) {ns : List Nat} : nums l word many = some ns ↔ ns.length = many ∧ (∀ n ∈ ns, n ≤ big) ∧ l = line word ns := by
  obtain ⟨h1, h2, h3⟩ := words_glue 32 _ l rfl
  unfold nums
  cases hws : words 32 (l.count 32) l with
  | nil => rw [hws] at h2; simp at h2
  | cons w ws =>
    rw [hws] at h1
    constructor
    · intro h
      simp only at h
      split at h
      · rename_i hc
        obtain ⟨c1, rfl⟩ := hc
        obtain ⟨g1, rfl⟩ := numsOf_some.1 h
        exact ⟨by simpa using c1, g1, h1.symm⟩
      · cases h
    · rintro ⟨g1, g2, rfl⟩
      have := (glue_words 32 (word :: ns.map num) (by simp) (fun x hx => by
        rcases List.mem_cons.1 hx with rfl | hx
        · exact hw
        · obtain ⟨n, -, rfl⟩ := List.mem_map.1 hx
          exact (num_free n).1)).1
      unfold line at hws
      rw [this] at hws
      injection hws with e1 e2
      subst e1 e2
      simp only
      rw [if_pos ⟨by simpa using g1, trivial⟩]
      exact numsOf_some.2 ⟨g2, rfl⟩
theorem line_free {word : List UInt8} (hw : (10 : UInt8) ∉ word) (ns : List Nat) : (10 : UInt8) ∉ line word ns := by
  unfold line glue
  rw [List.mem_append, not_or]
  refine ⟨hw, fun h => ?_⟩
  obtain ⟨x, hx, h2⟩ := List.mem_flatten.1 h
  obtain ⟨y, hy, rfl⟩ := List.mem_map.1 hx
  obtain ⟨n, -, rfl⟩ := List.mem_map.1 hy
  rcases List.mem_cons.1 h2 with h2 | h2
  · revert h2; decide
  · exact (num_free n).2 h2
def wRoom : List UInt8 := [114, 111, 111, 109]
def wAdd : List UInt8 := [97, 100, 100]
/-- The lines of those who come. -/
def addsT : List (Nat × Nat) → List UInt8
  | [] => []
  | (x, d) :: r => line wAdd [x, d] ++ 10 :: addsT r
def textT (room : Nat) (l : List (Nat × Nat)) : List UInt8 := line wRoom [room] ++ 10 :: addsT l
def fitsL (l : List (Nat × Nat)) : Prop := ∀ p ∈ l, p.1 ≤ big ∧ p.2 ≤ big
instance (l : List (Nat × Nat)) : Decidable (fitsL l) := by unfold fitsL; infer_instance
/-- The lines behind the first one: all that come, or the line that is wrong. -/
def adds : Nat → Nat → List UInt8 → Except Nat (List (Nat × Nat))
  | 0, k, _ => .error k
  | f + 1, k, t => if t = [] then .ok [] else match cutAt 10 t with
    | none => .error k
    | some (l, rest) => match nums l wAdd 2 with
      | some [x, d] => match adds f (k + 1) rest with
        | .ok r => .ok ((x, d) :: r)
        | .error e => .error e
      | _ => .error k
def parse (t : List UInt8) : Except Nat (Nat × List (Nat × Nat)) := match cutAt 10 t with
  | none => .error 0
  | some (l, rest) => match nums l wRoom 1 with
    | some [r] => match adds (rest.length + 1) 1 rest with
      | .ok a => .ok (r, a)
      | .error e => .error e
    | _ => .error 0
theorem two_of {ns : List Nat} (h : ns.length = 2) : ∃ x d, ns = [x, d] := by
  match ns, h with
  | [x, d], _ => exact ⟨x, d, rfl⟩
theorem one_of {ns : List Nat} (h : ns.length = 1) : ∃ x, ns = [x] := by
  match ns, h with
  | [x], _ => exact ⟨x, rfl⟩
theorem adds_ok : ∀ (f k : Nat) (t : List UInt8) (l : List (Nat × Nat)), t.length < f → (adds f k t = .ok l ↔ fitsL l ∧ t = addsT l)
  | 0, k, t, l, h => by omega
  | f + 1, k, t, l, h => by
    unfold adds
    by_cases h0 : t = []
    · subst h0
      rw [if_pos rfl]
      constructor
      · intro h; injection h with h; subst h; exact ⟨fun p hp => by simp at hp, rfl⟩
      · rintro ⟨g1, g2⟩
        cases l with
        | nil => rfl
        | cons p r => obtain ⟨x, d⟩ := p; simp [addsT] at g2
    · rw [if_neg h0]
      cases hc : cutAt 10 t with
      | none =>
        simp only
        constructor
        · intro h; cases h
        · rintro ⟨g1, g2⟩
          cases l with
          | nil => exact absurd g2 h0
          | cons p r =>
            obtain ⟨x, d⟩ := p
            have := (cutAt_none 10).1 hc
            rw [g2] at this
            simp [addsT] at this
      | some p =>
        obtain ⟨a, rest⟩ := p
        obtain ⟨g1, g2⟩ := (cutAt_some 10).1 hc
        have hl : rest.length < f := by rw [g1] at h; simp at h; omega
        simp only
        have back : ∀ x d r, fitsL ((x, d) :: r) → t = addsT ((x, d) :: r) → nums a wAdd 2 = some [x, d] ∧ rest = addsT r := fun x d r hf ht => by
          have e : cutAt 10 t = some (line wAdd [x, d], addsT r) := (cutAt_some 10).2 ⟨ht, line_free (by decide) _⟩
          rw [hc] at e
          injection e with e; injection e with e1 e2
          have hp := hf (x, d) (by simp)
          refine ⟨(nums_some (by decide)).2 ⟨rfl, fun n hn => ?_, e1⟩, e2⟩
          simp at hn
          rcases hn with rfl | rfl
          · exact hp.1
          · exact hp.2
        cases hn : nums a wAdd 2 with
        | none =>
          simp only
          constructor
          · intro h; cases h
          · rintro ⟨k1, k2⟩
            cases l with
            | nil => exact absurd k2 h0
            | cons p r =>
              obtain ⟨x, d⟩ := p
              have := (back x d r k1 k2).1
              rw [hn] at this; cases this
        | some ns =>
          obtain ⟨m1, m2, m3⟩ := (nums_some (by decide)).1 hn
          obtain ⟨x, d, rfl⟩ := two_of m1
          simp only
          have ih := adds_ok f (k + 1) rest
          cases hr : adds f (k + 1) rest with
          | error e =>
            simp only
            constructor
            · intro h; cases h
            · rintro ⟨k1, k2⟩
              cases l with
              | nil => exact absurd k2 h0
              | cons p r =>
                obtain ⟨x', d'⟩ := p
                have hb := (back x' d' r k1 k2).2
                have := (ih r hl).2 ⟨fun p hp => k1 p (by simp [hp]), hb⟩
                rw [hr] at this; cases this
          | ok r =>
            obtain ⟨r1, r2⟩ := (ih r hl).1 hr
            simp only
            constructor
            · intro h; injection h with h; subst h
              refine ⟨fun p hp => ?_, by rw [g1, m3, r2]; rfl⟩
              rcases List.mem_cons.1 hp with rfl | hp
              · exact ⟨m2 x (by simp), m2 d (by simp)⟩
              · exact r1 p hp
            · rintro ⟨k1, k2⟩
              cases l with
              | nil => exact absurd k2 h0
              | cons p r' =>
                obtain ⟨x', d'⟩ := p
                obtain ⟨b1, b2⟩ := back x' d' r' k1 k2
                rw [hn] at b1
                injection b1 with b1
                injection b1 with b3 b1
                injection b1 with b4 _
                subst b3 b4
                have := (ih r' hl).2 ⟨fun p hp => k1 p (by simp [hp]), b2⟩
                rw [hr] at this
                injection this with this
                subst this; rfl
theorem parse_ok (t : List UInt8) (room : Nat) (l : List (Nat × Nat)) : parse t = .ok (room, l) ↔ (room ≤ big ∧ fitsL l) ∧ t = textT room l := by
  have back : ∀ room l, room ≤ big → fitsL l → t = textT room l → cutAt 10 t = some (line wRoom [room], addsT l) := fun room l h1 h2 h3 =>
    (cutAt_some 10).2 ⟨h3, line_free (by decide) _⟩
  unfold parse
  cases hc : cutAt 10 t with
  | none =>
    simp only
    constructor
    · intro h; cases h
    · rintro ⟨⟨g1, g2⟩, g3⟩
      have := back room l g1 g2 g3
      rw [hc] at this; cases this
  | some p =>
    obtain ⟨a, rest⟩ := p
    obtain ⟨g1, g2⟩ := (cutAt_some 10).1 hc
    simp only
    cases hn : nums a wRoom 1 with
    | none =>
      simp only
      constructor
      · intro h; cases h
      · rintro ⟨⟨k1, k2⟩, k3⟩
        have e := back room l k1 k2 k3
        rw [hc] at e
        injection e with e; injection e with e1 e2
        have := (nums_some (l := a) (word := wRoom) (many := 1) (by decide) (ns := [room])).2 ⟨rfl, fun n hn => by simp at hn; omega, e1⟩
        rw [hn] at this; cases this
    | some ns =>
      obtain ⟨m1, m2, m3⟩ := (nums_some (by decide)).1 hn
      obtain ⟨r, rfl⟩ := one_of m1
      simp only
      have ih := fun l => adds_ok (rest.length + 1) 1 rest l (by omega)
      have hr0 := m2 r (by simp)
      cases hr : adds (rest.length + 1) 1 rest with
      | error e =>
        simp only
        constructor
        · intro h; cases h
        · rintro ⟨⟨k1, k2⟩, k3⟩
          have e := back room l k1 k2 k3
          rw [hc] at e
          injection e with e; injection e with e1 e2
          have := (ih l).2 ⟨k2, e2⟩
          rw [hr] at this; cases this
      | ok a' =>
        obtain ⟨r1, r2⟩ := (ih a').1 hr
        simp only
        constructor
        · intro h; injection h with h; injection h with h1 h2; subst h1 h2
          exact ⟨⟨hr0, r1⟩, by rw [g1, m3, r2]; rfl⟩
        · rintro ⟨⟨k1, k2⟩, k3⟩
          have e := back room l k1 k2 k3
          rw [hc] at e
          injection e with e; injection e with e1 e2
          have h3 := (ih l).2 ⟨k2, e2⟩
          rw [hr] at h3
          injection h3 with h3
          have h4 := (nums_some (l := a) (word := wRoom) (many := 1) (by decide) (ns := [room])).2 ⟨rfl, fun n hn => by simp at hn; omega, e1⟩
          rw [hn] at h4
          injection h4 with h4
          injection h4 with h4 _
          subst h3 h4; rfl
/-- The wrong line is one of the lines. -/
theorem adds_err : ∀ (f k : Nat) (t : List UInt8) (e : Nat), t.length < f → adds f k t = .error e → k ≤ e ∧ e ≤ k + t.count 10
  | 0, k, t, e, h, _ => by omega
  | f + 1, k, t, e, h, he => by
    unfold adds at he
    by_cases h0 : t = []
    · rw [if_pos h0] at he; cases he
    · rw [if_neg h0] at he
      cases hc : cutAt 10 t with
      | none => rw [hc] at he; injection he with he; subst he; exact ⟨Nat.le_refl _, by omega⟩
      | some p =>
        obtain ⟨a, rest⟩ := p
        obtain ⟨g1, g2⟩ := (cutAt_some 10).1 hc
        have hl : rest.length < f := by rw [g1] at h; simp at h; omega
        have hcn : t.count 10 = rest.count 10 + 1 := by rw [g1, List.count_append, List.count_eq_zero.2 g2, List.count_cons_self]; omega
        rw [hc] at he
        simp only at he
        cases hn : nums a wAdd 2 with
        | none => rw [hn] at he; injection he with he; subst he; exact ⟨Nat.le_refl _, by omega⟩
        | some ns =>
          obtain ⟨m1, -, -⟩ := (nums_some (by decide)).1 hn
          obtain ⟨x, d, rfl⟩ := two_of m1
          rw [hn] at he
          simp only at he
          cases hr : adds f (k + 1) rest with
          | ok r => rw [hr] at he; cases he
          | error e2 =>
            rw [hr] at he
            injection he with he
            subst he
            have := adds_err f (k + 1) rest e2 hl hr
            omega
theorem parse_err (t : List UInt8) (e : Nat) (he : parse t = .error e) : e ≤ t.count 10 := by
  unfold parse at he
  cases hc : cutAt 10 t with
  | none => rw [hc] at he; injection he with he; omega
  | some p =>
    obtain ⟨a, rest⟩ := p
    obtain ⟨g1, g2⟩ := (cutAt_some 10).1 hc
    have hcn : t.count 10 = rest.count 10 + 1 := by rw [g1, List.count_append, List.count_eq_zero.2 g2, List.count_cons_self]; omega
    rw [hc] at he
    simp only at he
    cases hn : nums a wRoom 1 with
    | none => rw [hn] at he; injection he with he; omega
    | some ns =>
      obtain ⟨m1, -, -⟩ := (nums_some (by decide)).1 hn
      obtain ⟨r, rfl⟩ := one_of m1
      rw [hn] at he
      simp only at he
      cases hr : adds (rest.length + 1) 1 rest with
      | ok r => rw [hr] at he; cases he
      | error e2 =>
        rw [hr] at he
        injection he with he
        subst he
        have := adds_err (rest.length + 1) 1 rest e2 (by omega) hr
        omega
/-- The lines of a text, and of one that begins with it. -/
theorem addsT_prefix : ∀ {l l' : List (Nat × Nat)} {m : List UInt8}, fitsL l → fitsL l' → addsT l ++ m = addsT l' → ∃ r, l' = l ++ r
  | [], l', m, _, _, _ => ⟨l', rfl⟩
  | (x, d) :: l, l', m, h1, h2, h => by
    cases l' with
    | nil => simp [addsT] at h
    | cons p l' =>
      obtain ⟨x', d'⟩ := p
      have e1 : cutAt 10 (addsT ((x, d) :: l) ++ m) = some (line wAdd [x, d], addsT l ++ m) := (cutAt_some 10).2 ⟨by simp [addsT], line_free (by decide) _⟩
      have e2 : cutAt 10 (addsT ((x', d') :: l')) = some (line wAdd [x', d'], addsT l') := (cutAt_some 10).2 ⟨rfl, line_free (by decide) _⟩
      rw [h, e2] at e1
      injection e1 with e1; injection e1 with e3 e4
      have p1 := h1 (x, d) (by simp)
      have p2 := h2 (x', d') (by simp)
      have n1 := (nums_some (l := line wAdd [x, d]) (word := wAdd) (many := 2) (by decide) (ns := [x, d])).2 ⟨rfl, fun n hn => by simp at hn; rcases hn with rfl | rfl; exact p1.1; exact p1.2, rfl⟩
      have n2 := (nums_some (l := line wAdd [x, d]) (word := wAdd) (many := 2) (by decide) (ns := [x', d'])).2 ⟨rfl, fun n hn => by simp at hn; rcases hn with rfl | rfl; exact p2.1; exact p2.2, e3.symm⟩
      rw [n1] at n2
      injection n2 with n2
      injection n2 with q1 n2
      injection n2 with q2 _
      subst q1 q2
      obtain ⟨r, rfl⟩ := addsT_prefix (fun p hp => h1 p (by simp [hp])) (fun p hp => h2 p (by simp [hp])) e4.symm
      exact ⟨r, rfl⟩
theorem textT_prefix {a b : Nat} {l l' : List (Nat × Nat)} {m : List UInt8} (ha : a ≤ big) (hb : b ≤ big) (h1 : fitsL l) (h2 : fitsL l') (h : textT a l ++ m = textT b l') : a = b ∧ ∃ r, l' = l ++ r := by
  have e1 : cutAt 10 (textT a l ++ m) = some (line wRoom [a], addsT l ++ m) := (cutAt_some 10).2 ⟨by simp [textT], line_free (by decide) _⟩
  have e2 : cutAt 10 (textT b l') = some (line wRoom [b], addsT l') := (cutAt_some 10).2 ⟨rfl, line_free (by decide) _⟩
  rw [h, e2] at e1
  injection e1 with e1; injection e1 with e3 e4
  have n1 := (nums_some (l := line wRoom [a]) (word := wRoom) (many := 1) (by decide) (ns := [a])).2 ⟨rfl, fun n hn => by simp at hn; omega, rfl⟩
  have n2 := (nums_some (l := line wRoom [a]) (word := wRoom) (many := 1) (by decide) (ns := [b])).2 ⟨rfl, fun n hn => by simp at hn; omega, e3.symm⟩
  rw [n1] at n2
  injection n2 with n2
  injection n2 with q1 _
  exact ⟨q1, addsT_prefix h1 h2 e4.symm⟩
theorem addsT_count : ∀ l : List (Nat × Nat), (addsT l).count 10 = l.length
  | [] => rfl
  | (x, d) :: r => by
    rw [addsT, List.count_append, List.count_eq_zero.2 (line_free (by decide) _), List.count_cons_self, addsT_count r]
    simp
theorem textT_count (room : Nat) (l : List (Nat × Nat)) : (textT room l).count 10 = l.length + 1 := by
  rw [textT, List.count_append, List.count_eq_zero.2 (line_free (by decide) _), List.count_cons_self, addsT_count]
  simp
end Go.Proofs.YthaiopgmncnekaaGreatDoor
