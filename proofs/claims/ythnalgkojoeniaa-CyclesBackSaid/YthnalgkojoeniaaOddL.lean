/- A change of two places joins two rounds or parts one; odd and odd is even. No condition. -/
import Derived.Test.YthnalgkojoeniaaCycL
set_option linter.unusedSimpArgs false
set_option linter.unusedVariables false
namespace Go.Proofs.Ythnalgkojoeniaa
theorem it_congr {f g : Nat → Nat} {n : Nat} (h : Pm f n) (e : ∀ x, x < n → f x = g x) : ∀ k x, x < n → it f k x = it g k x
  | 0, _, _ => rfl
  | k + 1, x, hx => by rw [it_succ, it_succ, ← it_congr h e k x hx, e _ (h.lt k x hx)]
theorem per_congr {f g : Nat → Nat} {n : Nat} (h : Pm f n) (e : ∀ x, x < n → f x = g x) {x : Nat} (hx : x < n) : per f n x = per g n x := by
  unfold per
  rw [show (fun j => it f j x == x) = (fun j => it g j x == x) from funext fun j => by rw [it_congr h e j x hx]]
theorem orb_congr {f g : Nat → Nat} {n : Nat} (h : Pm f n) (e : ∀ x, x < n → f x = g x) {x : Nat} (hx : x < n) : orb f n x = orb g n x := by
  unfold orb
  rw [per_congr h e hx]
  exact List.map_congr_left fun j _ => it_congr h e j x hx
theorem lows_congr {f g : Nat → Nat} {n : Nat} (h : Pm f n) (e : ∀ x, x < n → f x = g x) : lows f n n = lows g n n := by
  unfold lows
  refine List.filter_congr fun x hx => ?_
  unfold isL
  rw [orb_congr h e (List.mem_range.1 hx)]
theorem cyc_congr {f g : Nat → Nat} {n : Nat} (h : Pm f n) (e : ∀ x, x < n → f x = g x) : cyc f n n = cyc g n n := by
  unfold cyc
  rw [lows_congr h e]
  refine List.map_congr_left fun x hx => ?_
  rw [← lows_congr h e] at hx
  exact orb_congr h e (List.mem_range.1 (List.mem_filter.1 hx).1)
theorem Pm.congr {f g : Nat → Nat} {n : Nat} (h : Pm f n) (e : ∀ x, x < n → f x = g x) : Pm g n :=
  ⟨fun x hx => by rw [← e x hx]; exact h.1 x hx, fun x y hx hy he => h.2 x y hx hy (by rw [e x hx, e y hy, he])⟩
/-- Two places change. -/
def sw (f : Nat → Nat) (i j k : Nat) : Nat := if k = i then f j else if k = j then f i else f k
theorem sw_i (f : Nat → Nat) (i j : Nat) : sw f i j i = f j := by simp [sw]
theorem sw_j (f : Nat → Nat) (i j : Nat) : sw f i j j = f i := by unfold sw; split <;> simp_all
theorem sw_o (f : Nat → Nat) (i j k : Nat) (h1 : k ≠ i) (h2 : k ≠ j) : sw f i j k = f k := by simp [sw, h1, h2]
theorem sw_comm (f : Nat → Nat) (i j k : Nat) : sw f i j k = sw f j i k := by
  unfold sw; split <;> split <;> simp_all
theorem sw_sw (f : Nat → Nat) (i j k : Nat) : sw (sw f i j) i j k = f k := by
  by_cases h1 : k = i
  · subst h1; rw [sw_i, sw_j]
  · by_cases h2 : k = j
    · subst h2; rw [sw_j, sw_i]
    · rw [sw_o _ _ _ _ h1 h2, sw_o _ _ _ _ h1 h2]
def tr (i j k : Nat) : Nat := if k = i then j else if k = j then i else k
theorem tr_inj {i j x y : Nat} (e : tr i j x = tr i j y) : x = y := by
  unfold tr at e; split at e <;> split at e <;> (try split at e) <;> (try split at e) <;> omega
theorem sw_tr (f : Nat → Nat) (i j k : Nat) : sw f i j k = f (tr i j k) := by
  unfold sw tr; split <;> (try split) <;> rfl
theorem Pm.sw {f : Nat → Nat} {n i j : Nat} (h : Pm f n) (hi : i < n) (hj : j < n) : Pm (sw f i j) n := by
  have ht : ∀ x, x < n → tr i j x < n := fun x hx => by unfold tr; split <;> (try split) <;> omega
  refine ⟨fun x hx => ?_, fun x y hx hy e => ?_⟩
  · rw [sw_tr]; exact h.1 _ (ht x hx)
  · rw [sw_tr, sw_tr] at e
    exact tr_inj (h.2 _ _ (ht x hx) (ht y hy) e)
theorem sw_out {f : Nat → Nat} {n i j x : Nat} (h : Pm f n) (hi : i < n) (hj : j < n) (hx : x < n) (h1 : x ∉ orb f n i) (h2 : x ∉ orb f n j) : ∀ k, it (sw f i j) k x = it f k x
  | 0 => rfl
  | k + 1 => by
    rw [it_succ, it_succ, sw_out h hi hj hx h1 h2 k]
    refine sw_o _ _ _ _ (fun e => h1 (h.orb_symm hx ((h.mem_orb hx i).2 ⟨k, e⟩))) (fun e => h2 (h.orb_symm hx ((h.mem_orb hx j).2 ⟨k, e⟩)))
theorem sw_walk {f : Nat → Nat} {n i j : Nat} (h : Pm f n) (hi : i < n) (hj : j < n) (hno : j ∉ orb f n i) : ∀ k, k < per f n j → it (sw f i j) (k + 1) i = it f (k + 1) j
  | 0, _ => by show Ythnalgkojoeniaa.sw f i j i = f j; exact sw_i f i j
  | k + 1, hk => by
    rw [it_succ, it_succ f, sw_walk h hi hj hno k (by omega)]
    refine sw_o _ _ _ _ (fun e => hno (h.orb_symm hj ((h.mem_orb hj i).2 ⟨k + 1, e⟩))) (fun e => (h.per hj).2.2.2 (k + 1) (by omega) hk e)
theorem sw_reach {f : Nat → Nat} {n i j : Nat} (h : Pm f n) (hi : i < n) (hj : j < n) (hno : j ∉ orb f n i) {y : Nat} (hy : y ∈ orb f n j) : y ∈ orb (sw f i j) n i := by
  obtain ⟨k, rfl⟩ := (h.mem_orb hj y).1 hy
  obtain ⟨h1, h2, h3, h4⟩ := h.per hj
  refine ((h.sw hi hj).mem_orb hi _).2 ?_
  have hm := Nat.mod_lt k (show per f n j > 0 by omega)
  rw [h.it_mod hj]
  rcases Nat.eq_zero_or_pos (k % per f n j) with h0 | h0
  · refine ⟨per f n j - 1 + 1, ?_⟩
    rw [sw_walk h hi hj hno _ (by omega), h0, show per f n j - 1 + 1 = per f n j by omega, h1]; rfl
  · refine ⟨k % per f n j - 1 + 1, ?_⟩
    rw [sw_walk h hi hj hno _ (by omega), show k % per f n j - 1 + 1 = k % per f n j by omega]
theorem orb_sw_comm (f : Nat → Nat) (n i j x : Nat) : orb (sw f i j) n x = orb (sw f j i) n x := by
  rw [show sw f i j = sw f j i from funext fun k => sw_comm f i j k]
/-- Two rounds are joined. -/
theorem sw_join {f : Nat → Nat} {n i j : Nat} (h : Pm f n) (hi : i < n) (hj : j < n) (hno : j ∉ orb f n i) {x y : Nat} (hx : x < n) :
    y ∈ orb (sw f i j) n x ↔ if x ∈ orb f n i ∨ x ∈ orb f n j then y ∈ orb f n i ∨ y ∈ orb f n j else y ∈ orb f n x := by
  have hs := h.sw (j := j) hi hj
  have hno2 : i ∉ orb f n j := fun e => hno (h.orb_symm hj e)
  have r1 : ∀ y, y ∈ orb f n j → y ∈ orb (Ythnalgkojoeniaa.sw f i j) n i := fun y hy => sw_reach h hi hj hno hy
  have r2 : ∀ y, y ∈ orb f n i → y ∈ orb (Ythnalgkojoeniaa.sw f i j) n j := fun y hy => by rw [orb_sw_comm]; exact sw_reach h hj hi hno2 hy
  have i2 : j ∈ orb (Ythnalgkojoeniaa.sw f i j) n i := r1 j (h.orb_self hj)
  have U : ∀ y, y ∈ orb f n i ∨ y ∈ orb f n j → y ∈ orb (Ythnalgkojoeniaa.sw f i j) n i := fun y hy => hy.elim (fun hy => hs.orb_trans hi i2 (r2 y hy)) (r1 y)
  split
  · rename_i hu
    have hxi := hs.orb_symm hi (U x hu)
    constructor
    · intro hy
      obtain ⟨k, rfl⟩ := (hs.mem_orb hx y).1 hy
      clear hy
      induction k with
      | zero => exact hu
      | succ k ih =>
        rw [it_succ]
        generalize it (Ythnalgkojoeniaa.sw f i j) k x = z at ih
        have step : ∀ a z, a < n → z ∈ orb f n a → f z ∈ orb f n a := fun a z ha hz => by
          obtain ⟨m, rfl⟩ := (h.mem_orb ha z).1 hz
          exact (h.mem_orb ha _).2 ⟨m + 1, it_succ f m a⟩
        unfold Ythnalgkojoeniaa.sw
        split
        · exact .inr (step j j hj (h.orb_self hj))
        · split
          · exact .inl (step i i hi (h.orb_self hi))
          · exact ih.elim (fun e => .inl (step i z hi e)) (fun e => .inr (step j z hj e))
    · intro hy; exact hs.orb_trans hx hxi (U y hy)
  · rename_i hu
    rw [hs.mem_orb hx, h.mem_orb hx]
    have := sw_out h hi hj hx (fun e => hu (.inl e)) (fun e => hu (.inr e))
    constructor
    · rintro ⟨k, e⟩; exact ⟨k, by rw [← this k]; exact e⟩
    · rintro ⟨k, e⟩; exact ⟨k, by rw [this k]; exact e⟩
theorem low_uniq {f : Nat → Nat} {n : Nat} (h : Pm f n) {x y : Nat} (hx : x < n) (hy : y ∈ orb f n x) (h1 : isL f n x = true) (h2 : isL f n y = true) : x = y := by
  have a := isL_iff.1 h1 y hy
  have b := isL_iff.1 h2 x (h.orb_symm hx hy)
  omega
theorem joined {f : Nat → Nat} {n i j : Nat} (h : Pm f n) (hi : i < n) (hj : j < n) (hno : j ∉ orb f n i) : (lows (sw f i j) n n).length + 1 = (lows f n n).length := by
  have hs := h.sw (j := j) hi hj
  obtain ⟨a1, a2, a3, a4⟩ := h.lowOf hi
  obtain ⟨b1, b2, b3, b4⟩ := h.lowOf hj
  generalize lowOf f n i = a at *
  generalize lowOf f n j = b at *
  have hab : a ≠ b := fun e => by subst e; exact hno (h.orb_trans hi a1 b4)
  obtain ⟨m, l, hm, hl⟩ : ∃ m l, (m = a ∧ l = b ∨ m = b ∧ l = a) ∧ l < m := by
    rcases Nat.lt_or_ge a b with e | e
    · exact ⟨b, a, .inr ⟨rfl, rfl⟩, e⟩
    · exact ⟨a, b, .inl ⟨rfl, rfl⟩, by omega⟩
  have hU : ∀ x, x ∈ orb f n i ∨ x ∈ orb f n j → l ≤ x := fun x hx => by
    have e1 := isL_iff.1 a3
    have e2 := isL_iff.1 b3
    rcases hx with hx | hx
    · have := e1 x (h.orb_trans a2 a4 hx); omega
    · have := e2 x (h.orb_trans b2 b4 hx); omega
  have hlU : l ∈ orb f n i ∨ l ∈ orb f n j := by
    rcases hm with ⟨-, rfl⟩ | ⟨-, rfl⟩
    · exact .inr b1
    · exact .inl a1
  have hmU : m ∈ orb f n i ∨ m ∈ orb f n j := by
    rcases hm with ⟨rfl, -⟩ | ⟨rfl, -⟩
    · exact .inl a1
    · exact .inr b1
  have hln : l < n := by rcases hm with ⟨-, rfl⟩ | ⟨-, rfl⟩ <;> assumption
  have hmn : m < n := by rcases hm with ⟨rfl, -⟩ | ⟨rfl, -⟩ <;> assumption
  have hmL : isL f n m = true := by rcases hm with ⟨rfl, -⟩ | ⟨rfl, -⟩ <;> assumption
  have hlL : isL f n l = true := by rcases hm with ⟨-, rfl⟩ | ⟨-, rfl⟩ <;> assumption
  have key : ∀ x, x < n → isL (Ythnalgkojoeniaa.sw f i j) n x = (isL f n x && (x != m)) := by
    intro x hx
    rw [Bool.eq_iff_iff, isL_iff, Bool.and_eq_true, bne_iff_ne, isL_iff]
    by_cases hu : x ∈ orb f n i ∨ x ∈ orb f n j
    · constructor
      · intro h1
        have hxl : x = l := by
          have := h1 l ((sw_join h hi hj hno hx).2 (by rw [if_pos hu]; exact hlU))
          have := hU x hu
          omega
        subst hxl
        exact ⟨isL_iff.1 hlL, by omega⟩
      · rintro ⟨h1, h2⟩
        have hxl : x = l := by
          rcases hu with hu | hu
          · have hxa : x = a := low_uniq h hx (h.orb_trans hx (h.orb_symm hi hu) a1) (isL_iff.2 h1) a3
            omega
          · have hxa : x = b := low_uniq h hx (h.orb_trans hx (h.orb_symm hj hu) b1) (isL_iff.2 h1) b3
            omega
        intro y hy
        have := (sw_join h hi hj hno hx).1 hy
        rw [if_pos hu] at this
        have := hU y this
        omega
    · have e : ∀ y, y ∈ orb (Ythnalgkojoeniaa.sw f i j) n x ↔ y ∈ orb f n x := fun y => by
        have := sw_join (y := y) h hi hj hno hx
        rwa [if_neg hu] at this
      constructor
      · intro h1
        exact ⟨fun y hy => h1 y ((e y).2 hy), fun e2 => hu (by subst e2; exact hmU)⟩
      · rintro ⟨h1, -⟩ y hy
        exact h1 y ((e y).1 hy)
  have hnd : (lows f n n).Nodup := List.nodup_range.sublist List.filter_sublist
  have hmem : m ∈ lows f n n := List.mem_filter.2 ⟨List.mem_range.2 hmn, hmL⟩
  have e : lows (Ythnalgkojoeniaa.sw f i j) n n = (lows f n n).erase m := by
    rw [hnd.erase_eq_filter]
    unfold lows
    rw [List.filter_filter]
    refine List.filter_congr fun x hx => ?_
    rw [key x (List.mem_range.1 hx), Bool.and_comm]
  rw [e, List.length_erase_of_mem hmem]
  have := List.length_pos_of_mem hmem
  omega
/-- A round is parted. -/
theorem sw_part {f : Nat → Nat} {n i j : Nat} (h : Pm f n) (hi : i < n) (hj : j < n) (hij : i ≠ j) (hin : j ∈ orb f n i) : j ∉ orb (sw f i j) n i := by
  have hs := h.sw (j := j) hi hj
  obtain ⟨h1, h2, h3, h4⟩ := h.per hi
  obtain ⟨m, hm⟩ := (h.mem_orb hi j).1 hin
  rw [h.it_mod hi] at hm
  have hml := Nat.mod_lt m (show per f n i > 0 by omega)
  generalize m % per f n i = m at *
  generalize per f n i = L at *
  have hm0 : m ≠ 0 := fun e => by subst e; exact hij hm
  have hne : ∀ t, t + 1 < L → it f (m + 1 + t) i ≠ j := fun t ht e => by
    rw [← hm, show m + 1 + t = m + (t + 1) by omega, it_add] at e
    exact h4 (t + 1) (by omega) ht (h.inj m _ _ (h.lt _ _ hi) hi e)
  have walk : ∀ t, t < L - m → it (Ythnalgkojoeniaa.sw f i j) (t + 1) i = it f (m + 1 + t) i := by
    intro t
    induction t with
    | zero => intro _; show Ythnalgkojoeniaa.sw f i j i = it f (m + 1) i; rw [sw_i, it_succ, hm]
    | succ t ih =>
      intro ht
      rw [it_succ, ih (by omega), show m + 1 + (t + 1) = (m + 1 + t) + 1 by omega, it_succ f]
      exact sw_o _ _ _ _ (h4 _ (by omega) (by omega)) (hne t (by omega))
  have hret : it (Ythnalgkojoeniaa.sw f i j) (L - m) i = i := by
    have := walk (L - m - 1) (by omega)
    rw [show L - m - 1 + 1 = L - m by omega, show m + 1 + (L - m - 1) = L by omega] at this
    rw [this, h1]
  intro hc
  obtain ⟨k, hk⟩ := (hs.mem_orb hi j).1 hc
  have e : it (Ythnalgkojoeniaa.sw f i j) k i = it (Ythnalgkojoeniaa.sw f i j) (k % (L - m)) i := by
    conv => lhs; rw [← Nat.mod_add_div k (L - m), it_add, it_mul _ _ i hret]
  rw [e] at hk
  have hkl := Nat.mod_lt k (show L - m > 0 by omega)
  generalize k % (L - m) = k' at *
  match k', hkl, hk with
  | 0, _, hk => exact hij hk
  | t + 1, hkl, hk =>
    rw [walk t (by omega)] at hk
    exact hne t (by omega) hk
theorem gap {f : Nat → Nat} {n i j : Nat} (h : Pm f n) (hi : i < n) (hj : j < n) (hij : i ≠ j) :
    (lows (sw f i j) n n).length + 1 = (lows f n n).length ∨ (lows f n n).length + 1 = (lows (sw f i j) n n).length := by
  by_cases hin : j ∈ orb f n i
  · right
    have := joined (h.sw (j := j) hi hj) hi hj (sw_part h hi hj hij hin)
    rwa [show sw (sw f i j) i j = f from funext fun k => sw_sw f i j k] at this
  · exact .inl (joined h hi hj hin)
theorem lows_le (f : Nat → Nat) (n : Nat) : (lows f n n).length ≤ n := by
  have := List.length_filter_le (isL f n) (List.range n)
  simpa [lows] using this
/-- An odd number of changes. -/
def par (f : Nat → Nat) (n : Nat) : Bool := (n - (lows f n n).length) % 2 != 0
theorem par_sw {f : Nat → Nat} {n i j : Nat} (h : Pm f n) (hi : i < n) (hj : j < n) (hij : i ≠ j) : par (sw f i j) n = !par f n := by
  have h1 := gap h hi hj hij
  have h2 := lows_le f n
  have h3 := lows_le (sw f i j) n
  unfold par
  generalize (lows f n n).length = a at *
  generalize (lows (sw f i j) n n).length = b at *
  have : (n - b) % 2 = 1 - (n - a) % 2 := by omega
  rw [this]
  rcases Nat.mod_two_eq_zero_or_one (n - a) with e | e <;> rw [e] <;> rfl
theorem par_congr {f g : Nat → Nat} {n : Nat} (h : Pm f n) (e : ∀ x, x < n → f x = g x) : par f n = par g n := by
  unfold par; rw [lows_congr h e]
theorem it_id : ∀ k x, it (fun x => x) k x = x
  | 0, _ => rfl
  | k + 1, x => it_id k x
theorem par_id (n : Nat) : par (fun x => x) n = false := by
  unfold par
  rw [show lows (fun x => x) n n = List.range n by
    unfold lows
    rw [List.filter_eq_self]
    intro x _
    rw [isL_iff]
    intro y hy
    obtain ⟨k, -, rfl⟩ := List.mem_map.1 hy
    rw [it_id]; exact Nat.le_refl _]
  simp
theorem Pm.comp {f g : Nat → Nat} {n : Nat} (hf : Pm f n) (hg : Pm g n) : Pm (fun k => g (f k)) n :=
  ⟨fun x hx => hg.1 _ (hf.1 x hx), fun x y hx hy e => hf.2 x y hx hy (hg.2 _ _ (hf.1 x hx) (hf.1 y hy) e)⟩
/-- Odd and odd is even. -/
theorem par_then {g : Nat → Nat} {n : Nat} (hg : Pm g n) : ∀ m f, Pm f n → (∀ x, m ≤ x → x < n → f x = x) → par (fun k => g (f k)) n = (par f n != par g n)
  | 0, f, hf, hfix => by
    rw [par_congr (hf.comp hg) (g := g) (fun x hx => by rw [hfix x (Nat.zero_le _) hx]), par_congr hf (g := fun x => x) (fun x hx => hfix x (Nat.zero_le _) hx), par_id]
    simp
  | m + 1, f, hf, hfix => by
    by_cases hm : m < n
    · by_cases e : f m = m
      · exact par_then hg m f hf (fun x h1 h2 => by
          by_cases e2 : x = m
          · subst e2; exact e
          · exact hfix x (by omega) h2)
      · obtain ⟨h1, h2, h3, h4⟩ := hf.per hm
        have hz := hf.lt (per f n m - 1) m hm
        have hfz : f (it f (per f n m - 1) m) = m := by rw [← it_succ f, show per f n m - 1 + 1 = per f n m by omega, h1]
        generalize it f (per f n m - 1) m = z at *
        have hzm : m ≠ z := fun e2 => e (by rw [← e2] at hfz; exact hfz)
        have ih := par_then hg m (sw f m z) (hf.sw hm hz) (fun x h1 h2 => by
          by_cases e2 : x = m
          · subst e2; rw [sw_i, hfz]
          · by_cases e3 : x = z
            · subst e3
              have := hfix x (by omega) h2
              omega
            · rw [sw_o _ _ _ _ e2 e3]; exact hfix x (by omega) h2)
        rw [par_sw hf hm hz hzm, show (fun k => g (sw f m z k)) = sw (fun k => g (f k)) m z from funext fun k => by unfold sw; split <;> (try split) <;> rfl, par_sw (hf.comp hg) hm hz hzm] at ih
        revert ih
        cases par f n <;> cases par g n <;> cases par (fun k => g (f k)) n <;> simp
    · exact par_then hg m f hf (fun x h1 h2 => by omega)
end Go.Proofs.Ythnalgkojoeniaa
