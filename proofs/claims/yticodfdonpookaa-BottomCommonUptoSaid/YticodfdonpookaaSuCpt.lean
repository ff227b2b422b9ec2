/- slices.Compact of an ascending row of words: each of its members once. Condition: the row within the reach. -/
import Derived.Test.YticodfdonpookaaSuHas
set_option linter.unusedSimpArgs false
set_option linter.unusedVariables false
set_option maxRecDepth 20000
namespace Go.Proofs.Yticodfdonpookaa.Su
open Go.RowKit Go.Proofs.Yticodfdonpookaa
theorem bang_getD (ts : List Int) (k : Nat) (h : k < ts.length) : ts.toArray[k]! = ts.getD k 0 := by
  simp [List.getD_eq_getElem?_getD, h, getElem!_pos]
theorem take_getD (l : List Int) (k : Nat) (h : k < l.length) : l.take (k + 1) = l.take k ++ [l.getD k 0] := by
  rw [List.take_add_one, List.getElem?_eq_getElem h, List.getD_eq_getElem?_getD, List.getElem?_eq_getElem h]; rfl
theorem up_le {ts : List Int} (h : ts.Pairwise (· ≤ ·)) {i j : Nat} (hij : i < j) (hj : j < ts.length) : ts.getD i 0 ≤ ts.getD j 0 := by
  have := List.pairwise_iff_getElem.1 h i j (by omega) hj hij
  rw [List.getD_eq_getElem?_getD, List.getElem?_eq_getElem (by omega), List.getD_eq_getElem?_getD, List.getElem?_eq_getElem hj]
  exact this
theorem take_of {ts : List Int} {m : Nat} {x : Int} (hm : m ≤ ts.length) (h : x ∈ ts.take m) : ∃ i, i < m ∧ x = ts.getD i 0 := by
  obtain ⟨i, hi, e⟩ := List.getElem_of_mem h
  rw [List.length_take] at hi
  refine ⟨i, by omega, ?_⟩
  rw [List.getElem_take] at e
  rw [← e, List.getD_eq_getElem?_getD, List.getElem?_eq_getElem (by omega)]; rfl
theorem cpt_up {ts : List Int} (h : ts.Pairwise (· ≤ ·)) : ∀ m, m ≤ ts.length → (Lib.compactUpTo ts.toArray m).Pairwise (· < ·) ∧ ∀ x, x ∈ Lib.compactUpTo ts.toArray m ↔ x ∈ ts.take m
  | 0, _ => by simp [Lib.compactUpTo]
  | m + 1, hm => by
    obtain ⟨i1, i2⟩ := cpt_up h m (by omega)
    rw [Lib.compactUpTo_succ, take_getD ts m (by omega)]
    have last : (m = 0 ∨ ts.getD m 0 ≠ ts.getD (m - 1) 0) → ∀ x, x ∈ Lib.compactUpTo ts.toArray m → x < ts.getD m 0 := fun hne x hx => by
      obtain ⟨i, hi, rfl⟩ := take_of (by omega) ((i2 x).1 hx)
      have hne' : ts.getD m 0 ≠ ts.getD (m - 1) 0 := by rcases hne with h0 | h0
                                                        · omega
                                                        · exact h0
      have h2 := up_le h (show m - 1 < m by omega) (by omega)
      by_cases e : i = m - 1
      · rw [e]; omega
      · have := up_le h (show i < m - 1 by omega) (by omega); omega
    by_cases g : m = 0 ∨ ts.getD m 0 ≠ ts.getD (m - 1) 0
    · have : Lib.keeps ts.toArray m = true := by
        unfold Lib.keeps
        refine decide_eq_true ?_
        rcases g with g | g
        · exact Or.inl g
        · by_cases h0 : m = 0
          · exact Or.inl h0
          · refine Or.inr ?_
            rw [bang_getD ts m (by omega), bang_getD ts (m - 1) (by omega)]; exact g
      rw [this, if_pos rfl, bang_getD ts m (by omega)]
      refine ⟨List.pairwise_append.2 ⟨i1, List.pairwise_singleton _ _, fun x hx y hy => ?_⟩, fun x => by rw [List.mem_append, List.mem_append, i2]⟩
      rw [List.mem_singleton.1 hy]; exact last g x hx
    · have g' : 0 < m ∧ ts.getD m 0 = ts.getD (m - 1) 0 := by
        refine ⟨?_, ?_⟩
        · rcases Nat.eq_zero_or_pos m with h0 | h0
          · exact absurd (Or.inl h0) g
          · exact h0
        · exact Classical.byContradiction fun hc => g (Or.inr hc)
      have : Lib.keeps ts.toArray m = false := by
        unfold Lib.keeps
        refine decide_eq_false ?_
        rw [bang_getD ts m (by omega), bang_getD ts (m - 1) (by omega)]
        rintro (h0 | h0)
        · omega
        · exact h0 g'.2
      rw [this]
      simp only [Bool.false_eq_true, if_false, List.append_nil]
      refine ⟨i1, fun x => ?_⟩
      rw [i2, List.mem_append, List.mem_singleton]
      refine ⟨Or.inl, fun hx => hx.elim id fun hx => ?_⟩
      rw [hx, g'.2]
      have := take_getD ts (m - 1) (by omega)
      rw [show m - 1 + 1 = m by omega] at this
      rw [this]; simp
/-- Numbers that are words. -/
theorem words_of : ∀ (cs : List Int), (∀ c ∈ cs, ∃ z : BitVec 64, c = U z) → ∃ ds, us ds = cs
  | [], _ => ⟨[], rfl⟩
  | c :: cs, h => by
    obtain ⟨z, hz⟩ := h c List.mem_cons_self
    obtain ⟨ds, hd⟩ := words_of cs fun c hc => h c (List.mem_cons_of_mem _ hc)
    exact ⟨z :: ds, by rw [hz, ← hd]; rfl⟩
theorem cpt_words {ts : List Int} {xs : List (BitVec 64)} (h : ts.Pairwise (· ≤ ·)) (hp : ts.Perm (us xs)) : ∃ ds : List (BitVec 64), us ds = Lib.compactUpTo ts.toArray ts.length ∧ ds.Nodup ∧ ∀ z, z ∈ ds ↔ z ∈ xs := by
  obtain ⟨i1, i2⟩ := cpt_up h ts.length (Nat.le_refl _)
  rw [List.take_length] at i2
  generalize Lib.compactUpTo ts.toArray ts.length = cs at *
  obtain ⟨ds, hd⟩ := words_of cs fun c hc => by
    have := hp.mem_iff.1 ((i2 c).1 hc)
    obtain ⟨z, -, e⟩ := List.mem_map.1 this
    exact ⟨z, e.symm⟩
  refine ⟨ds, hd, ?_, fun z => ?_⟩
  · subst hd
    unfold us at i1
    rw [List.pairwise_map] at i1
    exact i1.imp fun h e => by rw [e] at h; omega
  · rw [← us_mem, hd, i2, hp.mem_iff, us_mem]
theorem dis_own (base : Nat) (v : Value) (n : Nat) (ts : List Int) (xs : List (BitVec 64)) (w : World) (h : w.ownsRow base 22 1 v n (ts.map (Value.int .u64))) (hn : ts.length = n) (hs : ts.Pairwise (· ≤ ·)) (hp : ts.Perm (us xs)) (hm : n ≤ 17592186044416) :
    Calls Try.prog 19 #[v] w fun e w' => (∃ (v' : Value) (ds : List (BitVec 64)), e = .returned v' ∧ Rd w' v' (us ds) ∧ ds.Nodup ∧ ∀ z, z ∈ ds ↔ z ∈ xs) ∧ Below base w w' := by
  obtain ⟨ds, hd, d1, d2⟩ := cpt_words hs hp
  rcases h.2 with ⟨rfl, h0⟩ | ⟨g, cap, cur, rfl, hbg, hg, h1, h2, h3, h4⟩
  · have hz : ts = [] := List.length_eq_zero_iff.1 (by omega)
    subst hz
    have hds : ds = [] := by
      have : (us ds).length = 0 := by rw [hd]; rfl
      rw [us_len] at this
      exact List.length_eq_zero_iff.1 this
    subst hds
    refine (cpt0 none 0 w).mono ?_
    rintro e w' ⟨rfl, rfl⟩
    exact ⟨⟨_, [], rfl, Rd.nil _, d1, d2⟩, Below.refl _ _⟩
  · by_cases h0 : n = 0
    · subst h0
      have hz : ts = [] := List.length_eq_zero_iff.1 hn
      subst hz
      have hds : ds = [] := by
        have : (us ds).length = 0 := by rw [hd]; rfl
        rw [us_len] at this
        exact List.length_eq_zero_iff.1 this
      subst hds
      refine (cpt0 (some ⟨g, 0, none⟩) cap w).mono ?_
      rintro e w' ⟨rfl, rfl⟩
      exact ⟨⟨_, [], rfl, Rd.mk rfl (Nat.zero_le _) h2 (fun i hi => by omega), d1, d2⟩, Below.refl _ _⟩
    · rw [Nat.mul_one, ← hn] at h4
      have hlt := (Array.getElem?_eq_some_iff.1 hg).1
      have := AnyE.slices_Compact Try.laysCompact (Value.int .u64) (fun _ => rfl) (EqlAt.intD Try.prog 22 .u64) (NeqAt.intD Try.prog 22 .u64) 0 Yticodfdonpookaa.zero22 g 0 cap ts.toArray w (Yticodfdonpookaa.holds_block (Value.int .u64) hg h4) (by simp; omega) (by simp; omega)
      have hsz : ts.toArray.size = n := by simp [hn]
      rw [hsz] at this
      rw [hn] at hd
      rw [← hd, us_len] at this
      have hle : ds.length ≤ n := by
        have := List.length_filter_le (Lib.keeps ts.toArray) (List.range n)
        rw [← us_len, hd]
        unfold Lib.compactUpTo
        rw [List.length_map]
        simpa using this
      refine Calls.mono this ?_
      rintro e w' ⟨rfl, k, rfl⟩
      have hts : (us ds ++ List.replicate (n - ds.length) 0).length = n := by simp [us_len]; omega
      have ho := own_sorted (Value.int .u64) (n := n) (k := k) (os := #[]) hbg hg h1 h2 (by rw [h3, Nat.mul_one]) hts
      rw [Sort.grow_empty] at ho
      refine ⟨⟨_, ds, rfl, ?_, d1, d2⟩, ?_⟩
      · refine Rd.mk (us_len _) (by omega) h2 fun i hi => ⟨g, 0, rfl, ?_, fun i hi => ?_⟩
        · exact (ho.lt g rfl).2
        · rw [Nat.zero_add, own_get ho i (by omega)]
          congr 2
          rw [List.getD_eq_getElem?_getD, List.getD_eq_getElem?_getD, List.getElem?_append_left (by rw [us_len]; exact hi)]
      · have hgr := Yticodfdonpookaa.grownBy_sort (Value.int .u64) (w := w) (g := g) (n := k) (os := #[]) (us ds ++ List.replicate (n - ds.length) 0).toArray
        rw [Sort.grow_empty] at hgr
        exact (Go.RowKit.Below.refl _ _).grown hgr (by omega) (fun k hk => by simp at hk; omega)
end Go.Proofs.Yticodfdonpookaa.Su
