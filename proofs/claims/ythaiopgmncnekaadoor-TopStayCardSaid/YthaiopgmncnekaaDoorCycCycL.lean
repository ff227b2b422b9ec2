/- Rounds of an order, plain: each one's round, the least ones, all rounds have each one once. No condition. -/
import Derived.Test.YthaiopgmncnekaaDoorCycThen
set_option linter.unusedSimpArgs false
set_option linter.unusedVariables false
set_option maxRecDepth 20000
namespace Go.Proofs.YthaiopgmncnekaaDoor.Cyc
/-- k times. -/
def it (f : Nat → Nat) : Nat → Nat → Nat
  | 0, x => x
  | k + 1, x => it f k (f x)
theorem it_succ (f : Nat → Nat) : ∀ k x, it f (k + 1) x = f (it f k x)
  | 0, _ => rfl
  | k + 1, x => it_succ f k (f x)
theorem it_add (f : Nat → Nat) (a : Nat) : ∀ b x, it f (a + b) x = it f a (it f b x)
  | 0, _ => rfl
  | b + 1, x => it_add f a b (f x)
theorem it_mul (f : Nat → Nat) (a x : Nat) (h : it f a x = x) : ∀ b, it f (a * b) x = x
  | 0 => rfl
  | b + 1 => by rw [Nat.mul_succ, it_add, h, it_mul f a x h b]
def Pm (f : Nat → Nat) (n : Nat) : Prop := (∀ x, x < n → f x < n) ∧ ∀ x y, x < n → y < n → f x = f y → x = y
theorem Pm.lt {f : Nat → Nat} {n : Nat} (h : Pm f n) : ∀ k x, x < n → it f k x < n
  | 0, _, hx => hx
  | k + 1, x, hx => h.lt k (f x) (h.1 x hx)
theorem Pm.inj {f : Nat → Nat} {n : Nat} (h : Pm f n) : ∀ k x y, x < n → y < n → it f k x = it f k y → x = y
  | 0, _, _, _, _, e => e
  | k + 1, x, y, hx, hy, e => h.2 x y hx hy (h.inj k _ _ (h.1 x hx) (h.1 y hy) e)
/-- The first one from k on, s of them tried. -/
def fst (P : Nat → Bool) : Nat → Nat → Nat
  | 0, k => k
  | s + 1, k => if P k then k else fst P s (k + 1)
theorem fst_spec (P : Nat → Bool) : ∀ s k, (∃ j, k ≤ j ∧ j < k + s ∧ P j = true) → P (fst P s k) = true ∧ k ≤ fst P s k ∧ fst P s k < k + s ∧ ∀ j, k ≤ j → j < fst P s k → P j = false
  | 0, k, ⟨j, h1, h2, _⟩ => by omega
  | s + 1, k, ⟨j, h1, h2, h3⟩ => by
    rw [fst]
    by_cases e : P k = true
    · rw [if_pos e]; exact ⟨e, Nat.le_refl _, by omega, fun j h1 h2 => by omega⟩
    · rw [if_neg e]
      have hj : j ≠ k := fun h => e (h ▸ h3)
      obtain ⟨a, b, c, d⟩ := fst_spec P s (k + 1) ⟨j, by omega, by omega, h3⟩
      refine ⟨a, by omega, by omega, fun i h4 h5 => ?_⟩
      by_cases e2 : i = k
      · subst e2; simpa using e
      · exact d i (by omega) h5
def per (f : Nat → Nat) (n x : Nat) : Nat := fst (fun j => it f j x == x) n 1
theorem dup {f : Nat → Nat} {n : Nat} (h : ∀ k, f k < n) : ∃ a b, a < b ∧ b ≤ n ∧ f a = f b := by
  by_cases hc : ∃ a b, a < b ∧ b ≤ n ∧ f a = f b
  · exact hc
  · exfalso
    have hnd : ((List.range (n + 1)).map f).Nodup := by
      refine List.pairwise_map.2 (List.Pairwise.imp_of_mem ?_ List.pairwise_lt_range)
      intro a b ha hb hab e
      exact hc ⟨a, b, hab, by have := List.mem_range.1 hb; omega, e⟩
    have := hnd.length_le_of_subset (l₂ := List.range n) (fun x hx => by
      obtain ⟨k, -, rfl⟩ := List.mem_map.1 hx
      exact List.mem_range.2 (h k))
    simp at this
    omega
theorem Pm.per_ex {f : Nat → Nat} {n : Nat} (h : Pm f n) {x : Nat} (hx : x < n) : ∃ j, 1 ≤ j ∧ j < 1 + n ∧ it f j x = x := by
  obtain ⟨a, b, h1, h2, h3⟩ := dup (f := fun k => it f k x) (n := n) (fun k => h.lt k x hx)
  refine ⟨b - a, by omega, by omega, ?_⟩
  have e : it f b x = it f a (it f (b - a) x) := by rw [← it_add]; congr 1; omega
  exact (h.inj a _ _ hx (h.lt _ _ hx) (h3.trans e)).symm
theorem Pm.per {f : Nat → Nat} {n : Nat} (h : Pm f n) {x : Nat} (hx : x < n) : it f (per f n x) x = x ∧ 1 ≤ per f n x ∧ per f n x ≤ n ∧ ∀ j, 1 ≤ j → j < YthaiopgmncnekaaDoor.Cyc.per f n x → it f j x ≠ x := by
  obtain ⟨j, h1, h2, h3⟩ := h.per_ex hx
  obtain ⟨a, b, c, d⟩ := fst_spec (fun j => it f j x == x) n 1 ⟨j, h1, h2, by simpa using h3⟩
  exact ⟨eq_of_beq a, b, by unfold YthaiopgmncnekaaDoor.Cyc.per; omega, fun j h4 h5 => by simpa using d j h4 h5⟩
theorem Pm.it_mod {f : Nat → Nat} {n : Nat} (h : Pm f n) {x : Nat} (hx : x < n) (d : Nat) : it f d x = it f (d % YthaiopgmncnekaaDoor.Cyc.per f n x) x := by
  obtain ⟨h1, -⟩ := h.per hx
  conv => lhs; rw [← Nat.mod_add_div d (YthaiopgmncnekaaDoor.Cyc.per f n x), it_add, it_mul f _ x h1]
theorem Pm.per_dvd {f : Nat → Nat} {n : Nat} (h : Pm f n) {x : Nat} (hx : x < n) (d : Nat) : it f d x = x ↔ YthaiopgmncnekaaDoor.Cyc.per f n x ∣ d := by
  obtain ⟨h1, h2, h3, h4⟩ := h.per hx
  constructor
  · intro e
    rw [h.it_mod hx] at e
    have hm := Nat.mod_lt d (show YthaiopgmncnekaaDoor.Cyc.per f n x > 0 by omega)
    rcases Nat.eq_zero_or_pos (d % YthaiopgmncnekaaDoor.Cyc.per f n x) with h0 | h0
    · exact Nat.dvd_of_mod_eq_zero h0
    · exact absurd e (h4 _ h0 hm)
  · rintro ⟨c, rfl⟩
    exact it_mul f _ x h1 c
/-- The round that x is in, from x on. -/
def orb (f : Nat → Nat) (n x : Nat) : List Nat := (List.range (per f n x)).map (fun j => it f j x)
theorem orb_len (f : Nat → Nat) (n x : Nat) : (orb f n x).length = per f n x := by simp [orb]
theorem orb_get (f : Nat → Nat) (n x k : Nat) (h : k < per f n x) : (orb f n x).getD k 0 = it f k x := by simp [orb, h]
theorem Pm.mem_orb {f : Nat → Nat} {n : Nat} (h : Pm f n) {x : Nat} (hx : x < n) (y : Nat) : y ∈ orb f n x ↔ ∃ k, it f k x = y := by
  unfold orb
  rw [List.mem_map]
  constructor
  · rintro ⟨k, -, e⟩; exact ⟨k, e⟩
  · rintro ⟨k, e⟩
    refine ⟨k % YthaiopgmncnekaaDoor.Cyc.per f n x, List.mem_range.2 (Nat.mod_lt _ (h.per hx).2.1), ?_⟩
    rw [← h.it_mod hx, e]
theorem Pm.orb_self {f : Nat → Nat} {n : Nat} (h : Pm f n) {x : Nat} (hx : x < n) : x ∈ orb f n x := (h.mem_orb hx x).2 ⟨0, rfl⟩
theorem Pm.orb_lt {f : Nat → Nat} {n : Nat} (h : Pm f n) {x y : Nat} (hx : x < n) (hy : y ∈ orb f n x) : y < n := by
  obtain ⟨k, rfl⟩ := (h.mem_orb hx y).1 hy; exact h.lt k x hx
theorem Pm.orb_symm {f : Nat → Nat} {n : Nat} (h : Pm f n) {x y : Nat} (hx : x < n) (hy : y ∈ orb f n x) : x ∈ orb f n y := by
  obtain ⟨k, rfl⟩ := (h.mem_orb hx y).1 hy
  refine (h.mem_orb (h.lt k x hx) x).2 ⟨YthaiopgmncnekaaDoor.Cyc.per f n x * (k + 1) - k, ?_⟩
  have h2 := (h.per hx).2.1
  rw [← it_add, show YthaiopgmncnekaaDoor.Cyc.per f n x * (k + 1) - k + k = YthaiopgmncnekaaDoor.Cyc.per f n x * (k + 1) by
    have := Nat.mul_le_mul_right (k + 1) h2
    omega]
  exact it_mul f _ x (h.per hx).1 _
theorem Pm.orb_trans {f : Nat → Nat} {n : Nat} (h : Pm f n) {x y z : Nat} (hx : x < n) (hy : y ∈ orb f n x) (hz : z ∈ orb f n y) : z ∈ orb f n x := by
  have hyn := h.orb_lt hx hy
  obtain ⟨k, rfl⟩ := (h.mem_orb hx y).1 hy
  obtain ⟨l, rfl⟩ := (h.mem_orb hyn z).1 hz
  exact (h.mem_orb hx _).2 ⟨l + k, it_add f l k x⟩
theorem Pm.orb_nodup {f : Nat → Nat} {n : Nat} (h : Pm f n) {x : Nat} (hx : x < n) : (orb f n x).Nodup := by
  refine List.pairwise_map.2 (List.Pairwise.imp_of_mem ?_ List.pairwise_lt_range)
  intro a b ha hb hab e
  obtain ⟨h1, h2, h3, h4⟩ := h.per hx
  have hb := List.mem_range.1 hb
  have e2 : it f b x = it f a (it f (b - a) x) := by rw [← it_add]; congr 1; omega
  exact h4 (b - a) (by omega) (by omega) (h.inj a _ _ hx (h.lt _ _ hx) (e.trans e2)).symm
theorem Pm.per_eq {f : Nat → Nat} {n : Nat} (h : Pm f n) {x y : Nat} (hx : x < n) (hy : y ∈ orb f n x) : YthaiopgmncnekaaDoor.Cyc.per f n y = YthaiopgmncnekaaDoor.Cyc.per f n x := by
  have key : ∀ a b, a < n → b ∈ orb f n a → YthaiopgmncnekaaDoor.Cyc.per f n b ∣ YthaiopgmncnekaaDoor.Cyc.per f n a := by
    intro a b ha hb
    have hbn := h.orb_lt ha hb
    obtain ⟨k, rfl⟩ := (h.mem_orb ha b).1 hb
    refine (h.per_dvd hbn _).1 ?_
    rw [← it_add, Nat.add_comm, it_add, (h.per ha).1]
  exact Nat.dvd_antisymm (key x y hx hy) (key y x (h.orb_lt hx hy) (h.orb_symm hx hy))
/-- x is the least one of its round. -/
def isL (f : Nat → Nat) (n x : Nat) : Bool := (orb f n x).all (fun y => decide (x ≤ y))
theorem isL_iff {f : Nat → Nat} {n x : Nat} : isL f n x = true ↔ ∀ y ∈ orb f n x, x ≤ y := by simp [isL]
/-- The rounds that begin below k. -/
def lows (f : Nat → Nat) (n k : Nat) : List Nat := (List.range k).filter (isL f n)
def cyc (f : Nat → Nat) (n k : Nat) : List (List Nat) := (lows f n k).map (orb f n)
/-- y is in a round of one below k. -/
def hd (f : Nat → Nat) (n k y : Nat) : Prop := ∃ x, x < k ∧ y ∈ orb f n x
theorem Pm.low {f : Nat → Nat} {n : Nat} (h : Pm f n) {x : Nat} (hx : x < n) : isL f n x = true ↔ ¬ hd f n x x := by
  rw [isL_iff]
  constructor
  · rintro h1 ⟨y, h2, h3⟩
    have := h1 y (h.orb_symm (by omega) h3)
    omega
  · intro h1 y hy
    by_cases e : x ≤ y
    · exact e
    · exact absurd ⟨y, by omega, h.orb_symm hx hy⟩ h1
theorem cyc_succ_low {f : Nat → Nat} {n k : Nat} (h : isL f n k = true) : cyc f n (k + 1) = cyc f n k ++ [orb f n k] := by
  unfold cyc lows; rw [List.range_succ, List.filter_append, List.map_append]; simp [h]
theorem cyc_succ_not {f : Nat → Nat} {n k : Nat} (h : ¬ isL f n k = true) : cyc f n (k + 1) = cyc f n k := by
  unfold cyc lows; rw [List.range_succ, List.filter_append, List.map_append]; simp [h]
theorem hd_succ {f : Nat → Nat} {n k y : Nat} : hd f n (k + 1) y ↔ hd f n k y ∨ y ∈ orb f n k := by
  constructor
  · rintro ⟨x, h1, h2⟩
    by_cases e : x = k
    · subst e; exact .inr h2
    · exact .inl ⟨x, by omega, h2⟩
  · rintro (⟨x, h1, h2⟩ | h1)
    · exact ⟨x, by omega, h2⟩
    · exact ⟨k, by omega, h1⟩
/-- A round that was had is had whole. -/
theorem Pm.hd_round {f : Nat → Nat} {n : Nat} (h : Pm f n) {k x y : Nat} (hk : k ≤ n) (h1 : hd f n k x) (h2 : y ∈ orb f n x) : hd f n k y := by
  obtain ⟨z, h3, h4⟩ := h1
  exact ⟨z, h3, h.orb_trans (by omega) h4 h2⟩
/-- Each one's least. -/
def lowOf (f : Nat → Nat) (n x : Nat) : Nat := fst (fun y => (orb f n x).contains y) n 0
theorem Pm.lowOf {f : Nat → Nat} {n : Nat} (h : Pm f n) {x : Nat} (hx : x < n) : lowOf f n x ∈ orb f n x ∧ YthaiopgmncnekaaDoor.Cyc.lowOf f n x < n ∧ isL f n (YthaiopgmncnekaaDoor.Cyc.lowOf f n x) = true ∧ x ∈ orb f n (YthaiopgmncnekaaDoor.Cyc.lowOf f n x) := by
  obtain ⟨a, b, c, d⟩ := fst_spec (fun y => (orb f n x).contains y) n 0 ⟨x, Nat.zero_le _, by omega, by simpa using h.orb_self hx⟩
  have hm : YthaiopgmncnekaaDoor.Cyc.lowOf f n x ∈ orb f n x := by unfold YthaiopgmncnekaaDoor.Cyc.lowOf; simpa using a
  refine ⟨hm, by unfold YthaiopgmncnekaaDoor.Cyc.lowOf; omega, isL_iff.2 fun y hy => ?_, h.orb_symm hx hm⟩
  have hy' := h.orb_trans hx hm hy
  by_cases e : YthaiopgmncnekaaDoor.Cyc.lowOf f n x ≤ y
  · exact e
  · have := d y (Nat.zero_le _) (by unfold YthaiopgmncnekaaDoor.Cyc.lowOf at e; omega)
    simp at this
    exact absurd hy' this
theorem Pm.mem_cyc {f : Nat → Nat} {n : Nat} (h : Pm f n) {x : Nat} (hx : x < n) : ∃ r ∈ cyc f n n, x ∈ r := by
  obtain ⟨h1, h2, h3, h4⟩ := h.lowOf hx
  refine ⟨orb f n (YthaiopgmncnekaaDoor.Cyc.lowOf f n x), List.mem_map.2 ⟨_, List.mem_filter.2 ⟨List.mem_range.2 h2, h3⟩, rfl⟩, h4⟩
theorem cyc_mem {f : Nat → Nat} {n k : Nat} {r : List Nat} (hr : r ∈ cyc f n k) : ∃ x, x < k ∧ isL f n x = true ∧ r = orb f n x := by
  obtain ⟨x, h1, rfl⟩ := List.mem_map.1 hr
  obtain ⟨h2, h3⟩ := List.mem_filter.1 h1
  exact ⟨x, List.mem_range.1 h2, h3, rfl⟩
/-- All rounds, one behind the other, have each one once. -/
theorem Pm.flat_nodup {f : Nat → Nat} {n : Nat} (h : Pm f n) : ∀ k, k ≤ n → (cyc f n k).flatten.Nodup ∧ ∀ y, y ∈ (cyc f n k).flatten ↔ hd f n k y
  | 0, _ => ⟨by simp [cyc, lows], fun y => by simp [cyc, lows, hd]⟩
  | k + 1, hk => by
    obtain ⟨h1, h2⟩ := h.flat_nodup k (by omega)
    by_cases e : isL f n k = true
    · rw [cyc_succ_low e]
      have hno := (h.low (by omega)).1 e
      constructor
      · rw [List.flatten_append, List.flatten_singleton, List.nodup_append]
        refine ⟨h1, h.orb_nodup (by omega), fun a ha b hb e2 => ?_⟩
        subst e2
        exact hno (h.hd_round (by omega) ((h2 a).1 ha) (h.orb_symm (by omega) hb))
      · intro y
        rw [List.flatten_append, List.flatten_singleton, List.mem_append, h2, hd_succ]
    · rw [cyc_succ_not e]
      refine ⟨h1, fun y => ?_⟩
      rw [h2, hd_succ]
      have hh : hd f n k k := by
        by_cases e2 : hd f n k k
        · exact e2
        · exact absurd ((h.low (by omega)).2 e2) e
      exact ⟨.inl, fun h3 => h3.elim id fun h3 => h.hd_round (by omega) hh h3⟩
theorem Pm.flat_perm {f : Nat → Nat} {n : Nat} (h : Pm f n) : (cyc f n n).flatten.Perm (List.range n) := by
  obtain ⟨h1, h2⟩ := h.flat_nodup n (Nat.le_refl _)
  refine (List.perm_ext_iff_of_nodup h1 List.nodup_range).2 fun y => ?_
  rw [h2, List.mem_range]
  exact ⟨fun ⟨x, h3, h4⟩ => h.orb_lt h3 h4, fun h3 => ⟨y, h3, h.orb_self h3⟩⟩
end Go.Proofs.YthaiopgmncnekaaDoor.Cyc
