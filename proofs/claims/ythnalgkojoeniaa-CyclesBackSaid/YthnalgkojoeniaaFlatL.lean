/- Rounds written in a row, and read again. No condition. -/
import Derived.Test.YthnalgkojoeniaaCycL
set_option linter.unusedSimpArgs false
set_option linter.unusedVariables false
namespace Go.Proofs.Ythnalgkojoeniaa
/-- x is the greatest one of its round. -/
def isH (f : Nat → Nat) (n x : Nat) : Bool := (orb f n x).all (fun y => decide (y ≤ x))
theorem isH_iff {f : Nat → Nat} {n x : Nat} : isH f n x = true ↔ ∀ y ∈ orb f n x, y ≤ x := by simp [isH]
def highs (f : Nat → Nat) (n : Nat) : List Nat := (List.range n).filter (isH f n)
def hrows (f : Nat → Nat) (n : Nat) : List (List Nat) := (highs f n).map (orb f n)
/-- Rows whose first ones rise. -/
def Hs (S : List (List Nat)) : Prop := S.Pairwise (fun a b => a.headD 0 < b.headD 0)
theorem hs_unique : ∀ {a b : List (List Nat)}, Hs a → Hs b → (∀ x, x ∈ a ↔ x ∈ b) → a = b
  | [], [], _, _, _ => rfl
  | [], y :: b, _, _, h => by have := (h y).2 List.mem_cons_self; simp at this
  | x :: a, [], _, _, h => by have := (h x).1 List.mem_cons_self; simp at this
  | x :: a, y :: b, ha, hb, h => by
    have ha' := List.pairwise_cons.1 ha
    have hb' := List.pairwise_cons.1 hb
    have e : x = y := by
      rcases List.mem_cons.1 ((h x).1 List.mem_cons_self) with e | e
      · exact e
      · rcases List.mem_cons.1 ((h y).2 List.mem_cons_self) with e2 | e2
        · exact e2.symm
        · have h1 := hb'.1 x e
          have h2 := ha'.1 y e2
          omega
    subst e
    rw [hs_unique ha'.2 hb'.2 fun z => ⟨fun hz => ?_, fun hz => ?_⟩]
    · rcases List.mem_cons.1 ((h z).1 (List.mem_cons_of_mem _ hz)) with e | e
      · have := ha'.1 z hz; rw [e] at this; omega
      · exact e
    · rcases List.mem_cons.1 ((h z).2 (List.mem_cons_of_mem _ hz)) with e | e
      · have := hb'.1 z hz; rw [e] at this; omega
      · exact e
theorem Pm.orb_head {f : Nat → Nat} {n : Nat} (h : Pm f n) {x : Nat} (hx : x < n) : (orb f n x).headD 0 = x ∧ orb f n x ≠ [] := by
  have h1 := (h.per hx).2.1
  unfold orb
  obtain ⟨k, hk⟩ : ∃ k, Ythnalgkojoeniaa.per f n x = k + 1 := ⟨Ythnalgkojoeniaa.per f n x - 1, by omega⟩
  rw [hk, List.range_succ_eq_map]
  simp [it]
theorem highs_mem {f : Nat → Nat} {n x : Nat} : x ∈ highs f n ↔ x < n ∧ isH f n x = true := by
  unfold highs; rw [List.mem_filter, List.mem_range]
theorem Pm.hrows_hs {f : Nat → Nat} {n : Nat} (h : Pm f n) : Hs (hrows f n) := by
  unfold Hs hrows
  refine List.pairwise_map.2 (List.Pairwise.imp_of_mem (R := (· < ·)) ?_ ?_)
  · intro a b ha hb hab
    rw [(h.orb_head (highs_mem.1 ha).1).1, (h.orb_head (highs_mem.1 hb).1).1]
    exact hab
  · exact List.pairwise_lt_range.sublist List.filter_sublist
theorem Pm.hrows_mem {f : Nat → Nat} {n : Nat} {r : List Nat} : r ∈ hrows f n ↔ ∃ x, x < n ∧ isH f n x = true ∧ r = orb f n x := by
  unfold hrows
  rw [List.mem_map]
  constructor
  · rintro ⟨x, h1, rfl⟩
    obtain ⟨h2, h3⟩ := highs_mem.1 h1
    exact ⟨x, h2, h3, rfl⟩
  · rintro ⟨x, h1, h2, rfl⟩
    exact ⟨x, highs_mem.2 ⟨h1, h2⟩, rfl⟩
theorem high_uniq {f : Nat → Nat} {n : Nat} (h : Pm f n) {x y : Nat} (hx : x < n) (hy : y ∈ orb f n x) (h1 : isH f n x = true) (h2 : isH f n y = true) : x = y := by
  have a := isH_iff.1 h1 y hy
  have b := isH_iff.1 h2 x (h.orb_symm hx hy)
  omega
theorem flat_nodup_of {f : Nat → Nat} {n : Nat} (h : Pm f n) : ∀ l : List Nat, (∀ x ∈ l, x < n ∧ isH f n x = true) → l.Nodup → (l.map (orb f n)).flatten.Nodup
  | [], _, _ => by simp
  | x :: l, hl, hn => by
    have hx := hl x List.mem_cons_self
    have hn' := List.nodup_cons.1 hn
    rw [List.map_cons, List.flatten_cons, List.nodup_append]
    refine ⟨h.orb_nodup hx.1, flat_nodup_of h l (fun y hy => hl y (List.mem_cons_of_mem _ hy)) hn'.2, fun a ha b hb e => ?_⟩
    subst e
    obtain ⟨r, hr, har⟩ := List.mem_flatten.1 hb
    obtain ⟨y, hy, rfl⟩ := List.mem_map.1 hr
    have hy2 := hl y (List.mem_cons_of_mem _ hy)
    have : x = y := high_uniq h hx.1 (h.orb_trans hx.1 ha (h.orb_symm hy2.1 har)) hx.2 hy2.2
    subst this
    exact hn'.1 hy
/-- The greatest of a round. -/
theorem Pm.top {f : Nat → Nat} {n : Nat} (h : Pm f n) {x : Nat} (hx : x < n) : ∃ m, m ∈ orb f n x ∧ m < n ∧ isH f n m = true ∧ x ∈ orb f n m := by
  obtain ⟨m, hm⟩ : ∃ m, (orb f n x).max? = some m := Option.isSome_iff_exists.1 (List.isSome_max?_of_ne_nil (h.orb_head hx).2)
  obtain ⟨h1, h2⟩ := List.max?_eq_some_iff.1 hm
  have hmn := h.orb_lt hx h1
  exact ⟨m, h1, hmn, isH_iff.2 fun y hy => h2 y (h.orb_trans hx h1 hy), h.orb_symm hx h1⟩
theorem Pm.hflat_perm {f : Nat → Nat} {n : Nat} (h : Pm f n) : (hrows f n).flatten.Perm (List.range n) := by
  refine (List.perm_ext_iff_of_nodup (flat_nodup_of h _ (fun x hx => highs_mem.1 hx) (List.nodup_range.sublist List.filter_sublist)) List.nodup_range).2 fun y => ?_
  rw [List.mem_range, List.mem_flatten]
  constructor
  · rintro ⟨r, hr, hy⟩
    obtain ⟨x, h1, h2, rfl⟩ := Pm.hrows_mem.1 hr
    exact h.orb_lt h1 hy
  · intro hy
    obtain ⟨m, h1, h2, h3, h4⟩ := h.top hy
    exact ⟨_, Pm.hrows_mem.2 ⟨m, h2, h3, rfl⟩, h4⟩
/-- A round from one of its places on: what lies from there, and then what lies ahead. -/
theorem Pm.orb_turn {f : Nat → Nat} {n : Nat} (h : Pm f n) {x k : Nat} (hx : x < n) (hk : k < Ythnalgkojoeniaa.per f n x) : (orb f n x).drop k ++ (orb f n x).take k = orb f n (it f k x) := by
  have hp := h.per_eq hx ((h.mem_orb hx _).2 ⟨k, rfl⟩)
  obtain ⟨h1, h2, h3, h4⟩ := h.per hx
  apply List.ext_getElem (by simp [orb_len, hp]; omega)
  intro j g1 g2
  rw [orb_len, hp] at g2
  have e : (orb f n (it f k x))[j]'(by rw [orb_len, hp]; exact g2) = it f (j + k) x := by
    simp [orb, it_add]
  rw [e]
  by_cases hj : j < Ythnalgkojoeniaa.per f n x - k
  · rw [List.getElem_append_left (by simp [orb_len]; omega)]
    simp [orb, Nat.add_comm]
  · rw [List.getElem_append_right (by simp [orb_len]; omega)]
    simp only [orb, List.getElem_take, List.getElem_map, List.getElem_range, List.length_drop, List.length_map, List.length_range]
    have e2 : j + k = j - (Ythnalgkojoeniaa.per f n x - k) + Ythnalgkojoeniaa.per f n x := by omega
    rw [e2, it_add, h1]
/-- Rows turned to their greatest, in order: only one way. -/
theorem Pm.sorted_eq {f : Nat → Nat} {n : Nat} (h : Pm f n) {S T : List (List Nat)} (hT : ∀ r, r ∈ T ↔ ∃ x, x < n ∧ isL f n x = true ∧ ∃ m, m ∈ orb f n x ∧ isH f n m = true ∧ r = orb f n m) (hp : S.Perm T) (hs : Hs S) : S = hrows f n := by
  refine hs_unique hs h.hrows_hs fun r => ?_
  rw [hp.mem_iff, hT, Pm.hrows_mem]
  constructor
  · rintro ⟨x, h1, h2, m, h3, h4, rfl⟩
    exact ⟨m, h.orb_lt h1 h3, h4, rfl⟩
  · rintro ⟨m, h1, h2, rfl⟩
    obtain ⟨a, b, c, d⟩ := h.lowOf h1
    exact ⟨Ythnalgkojoeniaa.lowOf f n m, b, c, m, d, h2, rfl⟩
/-! ### Cut where a new greatest comes -/
def addLast (l : List (List Nat)) (x : Nat) : List (List Nat) := l.dropLast ++ [(l.getLast?.getD []) ++ [x]]
theorem addLast_append (l : List (List Nat)) (r : List Nat) (x : Nat) : addLast (l ++ [r]) x = l ++ [r ++ [x]] := by simp [addLast]
def stp (st : Nat × List (List Nat)) (x : Nat) : Nat × List (List Nat) := if st.1 ≤ x then (x + 1, st.2 ++ [[x]]) else (st.1, addLast st.2 x)
def recs (l : List Nat) : List (List Nat) := (l.foldl stp (0, [])).2
/-- Each row begins with its greatest, and these rise. -/
def Hr (S : List (List Nat)) : Prop := Hs S ∧ ∀ r ∈ S, r ≠ [] ∧ ∀ y ∈ r, y ≤ r.headD 0
theorem stp_row (acc : List (List Nat)) : ∀ (t r0 : List Nat) (m : Nat), (∀ y ∈ t, y < m) → t.foldl stp (m, acc ++ [r0]) = (m, acc ++ [r0 ++ t])
  | [], r0, m, _ => by simp
  | y :: t, r0, m, h => by
    have hy := h y List.mem_cons_self
    rw [List.foldl_cons, stp, if_neg (by simp only; omega), addLast_append]
    rw [stp_row acc t (r0 ++ [y]) m fun z hz => h z (List.mem_cons_of_mem _ hz)]
    simp
theorem recs_rows : ∀ (S acc : List (List Nat)) (m : Nat), (S.flatten).Nodup → Hr S → (∀ r ∈ S, m ≤ r.headD 0) → ∃ m', (S.flatten).foldl stp (m, acc) = (m', acc ++ S)
  | [], acc, m, _, _, _ => ⟨m, by simp⟩
  | [] :: S, acc, m, _, h, _ => absurd rfl (h.2 [] List.mem_cons_self).1
  | (x :: t) :: S, acc, m, hn, h, hm => by
    have hx := hm _ List.mem_cons_self
    have hr := (h.2 _ List.mem_cons_self).2
    have hp := List.pairwise_cons.1 h.1
    rw [List.flatten_cons] at hn ⊢
    rw [List.nodup_append] at hn
    simp only [List.headD_cons] at hx hr hp
    rw [List.foldl_append, List.foldl_cons, stp, if_pos (by simp only; omega), stp_row acc t [x] (x + 1) (fun y hy => by
      have := hr y (List.mem_cons_of_mem _ hy); omega)]
    obtain ⟨m', e⟩ := recs_rows S (acc ++ [x :: t]) (x + 1) hn.2.1 ⟨hp.2, fun r hr => h.2 r (List.mem_cons_of_mem _ hr)⟩ (fun r hr => by have := hp.1 r hr; omega)
    exact ⟨m', by rw [List.singleton_append, e]; simp⟩
theorem recs_flat {S : List (List Nat)} (hn : S.flatten.Nodup) (h : Hr S) : recs S.flatten = S := by
  obtain ⟨m', e⟩ := recs_rows S [] 0 hn h (fun _ _ => Nat.zero_le _)
  unfold recs
  rw [e]; simp
theorem Pm.hrows_hr {f : Nat → Nat} {n : Nat} (h : Pm f n) : Hr (hrows f n) := by
  refine ⟨h.hrows_hs, fun r hr => ?_⟩
  obtain ⟨x, h1, h2, rfl⟩ := Pm.hrows_mem.1 hr
  rw [(h.orb_head h1).1]
  exact ⟨(h.orb_head h1).2, isH_iff.1 h2⟩
theorem recs_inv : ∀ (l : List Nat) (m : Nat) (acc : List (List Nat)), Hr acc → (∀ r ∈ acc, r.headD 0 < m) → (acc = [] → m = 0) → (∀ r, acc.getLast? = some r → r.headD 0 + 1 = m) →
    Hr (l.foldl stp (m, acc)).2 ∧ (l.foldl stp (m, acc)).2.flatten = acc.flatten ++ l
  | [], m, acc, h, _, _, _ => ⟨h, by simp⟩
  | x :: l, m, acc, h, hm, h0, hl => by
    rw [List.foldl_cons, stp]
    by_cases e : m ≤ x
    · rw [if_pos e]
      obtain ⟨a, b⟩ := recs_inv l (x + 1) (acc ++ [[x]]) ⟨List.pairwise_append.2 ⟨h.1, List.pairwise_singleton _ _, fun r hr s hs => by
          have : s = [x] := by simpa using hs
          subst this
          have := hm r hr
          simp only [List.headD_cons]; omega⟩, fun r hr => by
          rcases List.mem_append.1 hr with hr | hr
          · exact h.2 r hr
          · have : r = [x] := by simpa using hr
            subst this; simp⟩ (fun r hr => by
          rcases List.mem_append.1 hr with hr | hr
          · have := hm r hr; omega
          · have : r = [x] := by simpa using hr
            subst this; simp) (fun h => by simp at h) (fun r hr => by simp at hr; subst hr; rfl)
      exact ⟨a, by rw [b]; simp⟩
    · rw [if_neg e]
      have hne : acc ≠ [] := fun h => e (by rw [h0 h]; exact Nat.zero_le _)
      obtain ⟨l0, r0, rfl⟩ : ∃ l0 r0, acc = l0 ++ [r0] := ⟨acc.dropLast, acc.getLast hne, (List.dropLast_concat_getLast hne).symm⟩
      rw [addLast_append]
      have hr0 := h.2 r0 (by simp)
      have hlm := hl r0 (by simp)
      obtain ⟨y, t, rfl⟩ : ∃ y t, r0 = y :: t := by
        cases r0 with
        | nil => exact absurd rfl hr0.1
        | cons y t => exact ⟨y, t, rfl⟩
      have hp := List.pairwise_append.1 h.1
      simp only [List.headD_cons] at hlm hr0
      obtain ⟨a, b⟩ := recs_inv l m (l0 ++ [y :: t ++ [x]]) ⟨List.pairwise_append.2 ⟨hp.1, List.pairwise_singleton _ _, fun r hr s hs => by
          have : s = y :: t ++ [x] := by simpa using hs
          subst this
          have := hp.2.2 r hr (y :: t) (by simp); exact this⟩, fun r hr => by
          rcases List.mem_append.1 hr with hr | hr
          · exact h.2 r (List.mem_append_left _ hr)
          · have : r = y :: t ++ [x] := by simpa using hr
            subst this
            refine ⟨by simp, fun z hz => ?_⟩
            show z ≤ y
            rcases List.mem_append.1 hz with hz | hz
            · exact hr0.2 z hz
            · have : z = x := by simpa using hz
              omega⟩ (fun r hr => by
          rcases List.mem_append.1 hr with hr | hr
          · exact hm r (List.mem_append_left _ hr)
          · have : r = y :: t ++ [x] := by simpa using hr
            subst this
            show y < m
            omega) (fun h => by simp at h) (fun r hr => by simp at hr; subst hr; exact hlm)
      exact ⟨a, by rw [b]; simp⟩
theorem recs_ok (l : List Nat) : Hr (recs l) ∧ (recs l).flatten = l := by
  obtain ⟨a, b⟩ := recs_inv l 0 [] ⟨List.Pairwise.nil, by simp⟩ (by simp) (fun _ => rfl) (by simp)
  exact ⟨a, b.trans (by simp)⟩
/-! ### The order that has these rounds -/
def nxt (R : List (List Nat)) (x : Nat) : Nat := match R.find? (fun r => r.contains x) with
  | some r => r.getD ((r.idxOf x + 1) % r.length) 0
  | none => 0
theorem find_row : ∀ {R : List (List Nat)}, R.flatten.Nodup → ∀ {r}, r ∈ R → ∀ {x}, x ∈ r → R.find? (fun r => r.contains x) = some r
  | [], _, r, hr, _, _ => by simp at hr
  | s :: R, hn, r, hr, x, hx => by
    rw [List.flatten_cons, List.nodup_append] at hn
    rw [List.find?_cons]
    by_cases e : x ∈ s
    · rw [show s.contains x = true by simpa using e]
      rcases List.mem_cons.1 hr with rfl | hr
      · rfl
      · exact absurd rfl (hn.2.2 x e x (List.mem_flatten.2 ⟨r, hr, hx⟩))
    · rw [show s.contains x = false by simpa using e]
      rcases List.mem_cons.1 hr with rfl | hr
      · exact absurd hx e
      · exact find_row hn.2.1 hr hx
theorem row_nodup {R : List (List Nat)} (h : R.flatten.Nodup) {r : List Nat} (hr : r ∈ R) : r.Nodup := by
  induction R with
  | nil => simp at hr
  | cons s R ih =>
    rw [List.flatten_cons, List.nodup_append] at h
    rcases List.mem_cons.1 hr with rfl | hr
    · exact h.1
    · exact ih h.2.1 hr
theorem nxt_at {R : List (List Nat)} (h : R.flatten.Nodup) {r : List Nat} (hr : r ∈ R) {k : Nat} (hk : k < r.length) : nxt R (r.getD k 0) = r.getD ((k + 1) % r.length) 0 := by
  have hm : r.getD k 0 ∈ r := by rw [List.getD_eq_getElem?_getD, List.getElem?_eq_getElem hk]; exact List.getElem_mem hk
  unfold nxt
  rw [find_row h hr hm]
  show r.getD ((r.idxOf (r.getD k 0) + 1) % r.length) 0 = _
  rw [show r.idxOf (r.getD k 0) = k by
    rw [List.getD_eq_getElem?_getD, List.getElem?_eq_getElem hk]
    exact (row_nodup h hr).idxOf_getElem k hk]
theorem row_of {R : List (List Nat)} {n x : Nat} (h : R.flatten.Perm (List.range n)) (hx : x < n) : ∃ r ∈ R, ∃ k, k < r.length ∧ r.getD k 0 = x := by
  have : x ∈ R.flatten := h.mem_iff.2 (List.mem_range.2 hx)
  obtain ⟨r, hr, hxr⟩ := List.mem_flatten.1 this
  obtain ⟨k, hk, e⟩ := List.getElem_of_mem hxr
  exact ⟨r, hr, k, hk, by rw [List.getD_eq_getElem?_getD, List.getElem?_eq_getElem hk]; exact e⟩
theorem get_mem {r : List Nat} {k : Nat} (hk : k < r.length) : r.getD k 0 ∈ r := by
  rw [List.getD_eq_getElem?_getD, List.getElem?_eq_getElem hk]; exact List.getElem_mem hk
theorem get_inj {r : List Nat} (h : r.Nodup) {j k : Nat} (hj : j < r.length) (hk : k < r.length) (e : r.getD j 0 = r.getD k 0) : j = k := by
  rw [List.getD_eq_getElem?_getD, List.getD_eq_getElem?_getD, List.getElem?_eq_getElem hj, List.getElem?_eq_getElem hk] at e
  exact (List.getElem?_inj (i := j) (j := k) (l := r) hj h).1 (by rw [List.getElem?_eq_getElem hj, List.getElem?_eq_getElem hk]; simpa using e)
theorem nxt_pm {R : List (List Nat)} {n : Nat} (h : R.flatten.Perm (List.range n)) : Pm (nxt R) n := by
  have hnd : R.flatten.Nodup := h.symm.nodup List.nodup_range
  refine ⟨fun x hx => ?_, fun x y hx hy e => ?_⟩
  · obtain ⟨r, hr, k, hk, rfl⟩ := row_of h hx
    rw [nxt_at hnd hr hk]
    exact List.mem_range.1 (h.mem_iff.1 (List.mem_flatten.2 ⟨r, hr, get_mem (Nat.mod_lt _ (by omega))⟩))
  · obtain ⟨r, hr, k, hk, rfl⟩ := row_of h hx
    obtain ⟨s, hs, j, hj, rfl⟩ := row_of h hy
    rw [nxt_at hnd hr hk, nxt_at hnd hs hj] at e
    have m1 := get_mem (r := r) (k := (k + 1) % r.length) (Nat.mod_lt _ (by omega))
    have m2 := get_mem (r := s) (k := (j + 1) % s.length) (Nat.mod_lt _ (by omega))
    have : r = s := by
      have a := find_row hnd hr m1
      have b := find_row hnd hs m2
      rw [e, b] at a
      injection a with a; exact a.symm
    subst this
    have e2 := get_inj (row_nodup hnd hr) (Nat.mod_lt _ (by omega)) (Nat.mod_lt _ (by omega)) e
    have : k = j := by
      rcases Nat.lt_or_ge (k + 1) r.length with h1 | h1
      · rw [Nat.mod_eq_of_lt h1] at e2
        rcases Nat.lt_or_ge (j + 1) r.length with h2 | h2
        · rw [Nat.mod_eq_of_lt h2] at e2; omega
        · rw [show j + 1 = r.length by omega, Nat.mod_self] at e2; omega
      · rw [show k + 1 = r.length by omega, Nat.mod_self] at e2
        rcases Nat.lt_or_ge (j + 1) r.length with h2 | h2
        · rw [Nat.mod_eq_of_lt h2] at e2; omega
        · omega
    rw [this]
theorem nxt_it {R : List (List Nat)} (h : R.flatten.Nodup) {r : List Nat} (hr : r ∈ R) (h0 : 0 < r.length) : ∀ k, it (nxt R) k (r.getD 0 0) = r.getD (k % r.length) 0
  | 0 => by rw [Nat.zero_mod]; rfl
  | k + 1 => by
    rw [it_succ, nxt_it h hr h0 k, nxt_at h hr (Nat.mod_lt _ h0)]
    rw [Nat.mod_add_mod]
theorem nxt_orb {R : List (List Nat)} {n : Nat} (h : R.flatten.Perm (List.range n)) {r : List Nat} (hr : r ∈ R) (h0 : 0 < r.length) : orb (nxt R) n (r.getD 0 0) = r := by
  have hnd : R.flatten.Nodup := h.symm.nodup List.nodup_range
  have hx : r.getD 0 0 < n := List.mem_range.1 (h.mem_iff.1 (List.mem_flatten.2 ⟨r, hr, get_mem h0⟩))
  have hp := nxt_pm h
  have hper : per (nxt R) n (r.getD 0 0) = r.length := by
    refine Nat.dvd_antisymm ((hp.per_dvd hx _).1 ?_) ?_
    · rw [nxt_it hnd hr h0, Nat.mod_self]
    · have := (hp.per hx).1
      rw [nxt_it hnd hr h0] at this
      exact Nat.dvd_of_mod_eq_zero (get_inj (row_nodup hnd hr) (Nat.mod_lt _ h0) h0 this)
  apply List.ext_getElem (by rw [orb_len, hper])
  intro j h1 h2
  simp only [orb, List.getElem_map, List.getElem_range]
  rw [nxt_it hnd hr h0, Nat.mod_eq_of_lt h2, List.getD_eq_getElem?_getD, List.getElem?_eq_getElem h2]
  rfl
theorem headD_get {r : List Nat} : r.headD 0 = r.getD 0 0 := by cases r <;> rfl
/-- Flat undoes Round. -/
theorem nxt_hrows {R : List (List Nat)} {n : Nat} (h : R.flatten.Perm (List.range n)) (hR : Hr R) : hrows (nxt R) n = R := by
  have hp := nxt_pm h
  refine hs_unique hp.hrows_hs hR.1 fun r => ?_
  rw [Pm.hrows_mem]
  have pos : ∀ s ∈ R, 0 < s.length := fun s hs => List.length_pos_iff.2 (hR.2 s hs).1
  have high : ∀ s ∈ R, s.getD 0 0 < n ∧ isH (nxt R) n (s.getD 0 0) = true := fun s hs =>
    ⟨List.mem_range.1 (h.mem_iff.1 (List.mem_flatten.2 ⟨s, hs, get_mem (pos s hs)⟩)), isH_iff.2 fun y hy => by
      rw [nxt_orb h hs (pos s hs)] at hy
      have := (hR.2 s hs).2 y hy
      rwa [headD_get] at this⟩
  constructor
  · rintro ⟨x, h1, h2, rfl⟩
    obtain ⟨s, hs, k, hk, rfl⟩ := row_of h h1
    have hm : s.getD k 0 ∈ orb (nxt R) n (s.getD 0 0) := by rw [nxt_orb h hs (pos s hs)]; exact get_mem hk
    rw [← high_uniq hp (high s hs).1 hm (high s hs).2 h2, nxt_orb h hs (pos s hs)]
    exact hs
  · intro hr
    exact ⟨r.getD 0 0, (high r hr).1, (high r hr).2, (nxt_orb h hr (pos r hr)).symm⟩
/-- The rounds of f lead on as f does. -/
theorem Pm.orb_next {f : Nat → Nat} {n : Nat} (h : Pm f n) {x : Nat} (hx : x < n) {k : Nat} (hk : k < (orb f n x).length) : f ((orb f n x).getD k 0) = (orb f n x).getD ((k + 1) % (orb f n x).length) 0 := by
  rw [orb_len] at hk ⊢
  obtain ⟨h1, h2, h3, h4⟩ := h.per hx
  rw [orb_get _ _ _ _ hk, ← it_succ f, orb_get _ _ _ _ (Nat.mod_lt _ h2), ← h.it_mod hx]
end Go.Proofs.Ythnalgkojoeniaa
