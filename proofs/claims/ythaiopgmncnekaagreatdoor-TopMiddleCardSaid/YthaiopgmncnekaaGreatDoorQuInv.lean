/- What holds of a summary: plain. No condition. -/
import Derived.Test.YthaiopgmncnekaaGreatDoorQuAdd
set_option linter.unusedSimpArgs false
set_option linter.unusedVariables false
set_option maxRecDepth 20000
namespace Go.Proofs.YthaiopgmncnekaaGreatDoor.Qu
def cle (xs : List Int) (v : Int) : Int := ((xs.countP fun x => decide (x ≤ v) : Nat) : Int)
def clt (xs : List Int) (v : Int) : Int := ((xs.countP fun x => decide (x < v) : Nat) : Int)
theorem cle_snoc (xs : List Int) (x v : Int) : cle (xs ++ [x]) v = cle xs v + if x ≤ v then 1 else 0 := by
  unfold cle; rw [List.countP_append]; by_cases h : x ≤ v <;> simp [h]
theorem clt_snoc (xs : List Int) (x v : Int) : clt (xs ++ [x]) v = clt xs v + if x < v then 1 else 0 := by
  unfold clt; rw [List.countP_append]; by_cases h : x < v <;> simp [h]
theorem cle_mono (xs : List Int) {u v : Int} (h : u ≤ v) : cle xs u ≤ cle xs v := by
  unfold cle
  have := List.countP_mono_left (p := fun x => decide (x ≤ u)) (q := fun x => decide (x ≤ v)) (l := xs) (fun x _ hx => by simp at hx ⊢; omega)
  omega
theorem clt_mono (xs : List Int) {u v : Int} (h : u ≤ v) : clt xs u ≤ clt xs v := by
  unfold clt
  have := List.countP_mono_left (p := fun x => decide (x < u)) (q := fun x => decide (x < v)) (l := xs) (fun x _ hx => by simp at hx ⊢; omega)
  omega
theorem clt_le_len (xs : List Int) (v : Int) : clt xs v ≤ xs.length := by
  unfold clt; have := List.countP_le_length (p := fun x => decide (x < v)) (l := xs); omega
theorem cle_nn (xs : List Int) (v : Int) : 0 ≤ cle xs v := by unfold cle; omega
theorem clt_nn (xs : List Int) (v : Int) : 0 ≤ clt xs v := by unfold clt; omega
/-- Each says true, c standing ahead. -/
def Low (xs : List Int) : Int → List Rk → Prop
  | _, [] => True
  | c, r :: l => c + r.Gap ≤ cle xs r.N ∧ clt xs r.N + 1 ≤ c + r.Gap + r.More ∧ c + r.Gap + r.More ≤ xs.length ∧ r.N ∈ xs ∧ Low xs (c + r.Gap) l
theorem low_app (xs : List Int) : ∀ (c : Int) (A B : List Rk), Low xs c (A ++ B) ↔ Low xs c A ∧ Low xs (c + cnt A) B
  | c, [], B => by simp [Low, cnt]
  | c, r :: A, B => by
    have ih := low_app xs (c + r.Gap) A B
    simp only [List.cons_append, Low, cnt]
    rw [ih, show c + r.Gap + cnt A = c + (r.Gap + cnt A) by omega]
    constructor
    · rintro ⟨a, b, d, e, f, g⟩; exact ⟨⟨a, b, d, e, f⟩, g⟩
    · rintro ⟨⟨a, b, d, e, f⟩, g⟩; exact ⟨a, b, d, e, f, g⟩
theorem low_a (xs : List Int) (x : Int) : ∀ (c : Int) (A : List Rk), Low xs c A → (∀ r ∈ A, r.N ≤ x) → Low (xs ++ [x]) c A
  | _, [], _, _ => trivial
  | c, r :: A, ⟨a, b, d, e, f⟩, h => by
    have h1 := h r List.mem_cons_self
    refine ⟨?_, ?_, ?_, List.mem_append_left _ e, low_a xs x _ A f fun s hs => h s (List.mem_cons_of_mem _ hs)⟩
    · rw [cle_snoc]; split <;> omega
    · rw [clt_snoc, if_neg (by omega)]; omega
    · simp only [List.length_append, List.length_cons, List.length_nil]; omega
theorem low_b (xs : List Int) (x : Int) : ∀ (c : Int) (A : List Rk), Low xs c A → (∀ r ∈ A, x < r.N) → Low (xs ++ [x]) (c + 1) A
  | _, [], _, _ => trivial
  | c, r :: A, ⟨a, b, d, e, f⟩, h => by
    have h1 := h r List.mem_cons_self
    have ih := low_b xs x _ A f fun s hs => h s (List.mem_cons_of_mem _ hs)
    refine ⟨?_, ?_, ?_, List.mem_append_left _ e, by rw [show c + 1 + r.Gap = c + r.Gap + 1 by omega]; exact ih⟩
    · rw [cle_snoc, if_pos (by omega)]; omega
    · rw [clt_snoc, if_pos (by omega)]; omega
    · simp only [List.length_append, List.length_cons, List.length_nil]; omega
theorem low_cle (xs : List Int) (x : Int) : ∀ (c : Int) (A : List Rk), Low xs c A → (∀ r ∈ A, r.N ≤ x) → c ≤ cle xs x → c + cnt A ≤ cle xs x
  | c, [], _, _, h => by simpa [cnt] using h
  | c, r :: A, ⟨a, b, d, e, f⟩, h, _ => by
    have h1 := cle_mono xs (h r List.mem_cons_self)
    have ih := low_cle xs x _ A f (fun s hs => h s (List.mem_cons_of_mem _ hs)) (by omega)
    simp only [cnt]; omega
def Srt (l : List Rk) : Prop := (l.map Rk.N).Pairwise (· ≤ ·)
structure Inv (p : Int) (xs : List Int) (l : List Rk) : Prop where
  srt : Srt l
  low : Low xs 0 l
  gap : ∀ r ∈ l, 1 ≤ r.Gap
  more : ∀ r ∈ l, 0 ≤ r.More
  few : ∀ r ∈ l, r.Gap + r.More ≤ max (2 * cnt l / p) 1
  all : cnt l = xs.length
  head : ∀ r, l.head? = some r → r.Gap = 1 ∧ r.More = 0
theorem low_more {xs : List Int} : ∀ {c : Int} {l : List Rk}, 0 ≤ c → (∀ r ∈ l, 1 ≤ r.Gap) → Low xs c l → ∀ r ∈ l, r.More ≤ xs.length
  | _, [], _, _, _, r, h => by cases h
  | c, s :: l, hc, hg, ⟨a, b, d, e, f⟩, r, h => by
    have h1 := hg s List.mem_cons_self
    rcases List.mem_cons.1 h with rfl | h
    · omega
    · exact low_more (by omega) (fun t ht => hg t (List.mem_cons_of_mem _ ht)) f r h
theorem srt_at {l : List Rk} (h : Srt l) (k : Nat) (hk : k + 1 < l.length) : (l.getD k default).N ≤ (l.getD (k + 1) default).N := by
  have := (List.pairwise_iff_getElem.1 h) k (k + 1) (by simp; omega) (by simpa using hk) (by omega)
  simpa [List.getD_eq_getElem?_getD, List.getElem?_eq_getElem (show k < l.length by omega), List.getElem?_eq_getElem hk] using this
theorem Inv.right {p : Int} {xs : List Int} {l : List Rk} (h : Inv p xs l) (h1 : 1 ≤ p) (h2 : p ≤ 100) (h3 : l.length ≤ 400) (h4 : cnt l ≤ 1099511627776) : RightP p l := by
  have hc := h.all
  exact ⟨h1, h2, h3, h.gap, fun r hr => ⟨h.more r hr, by have := low_more (Int.le_refl 0) h.gap h.low r hr; omega⟩, h4, fun k hk => srt_at h.srt k hk, h.few⟩
theorem Inv.nil (p : Int) : Inv p [] [] := ⟨List.Pairwise.nil, trivial, fun r hr => by (cases hr), fun r hr => by (cases hr), fun r hr => by (cases hr), rfl, fun r hr => by (cases hr)⟩
/-- One is laid in. -/
theorem Inv.ins {p : Int} {xs : List Int} {l : List Rk} (h : Inv p xs l) (hp : 1 ≤ p) (x : Int) : Inv p (xs ++ [x]) (addIn l x) ∧ 0 ≤ moreF l (atF l x) := by
  have hat := atF_le l x
  have hA : ∀ r ∈ l.take (atF l x), r.N ≤ x := by
    intro r hr
    obtain ⟨j, hj, rfl⟩ := List.mem_iff_getElem.1 hr
    have hj' : j < atF l x := by rw [List.length_take] at hj; omega
    have := atF_up l x j hj'
    rw [List.getD_eq_getElem?_getD, List.getElem?_eq_getElem (by omega)] at this
    simpa using this
  have hBs : (l.drop (atF l x)).map Rk.N |>.Pairwise (· ≤ ·) := by
    have := h.srt
    unfold Srt at this
    rw [← List.take_append_drop (atF l x) l, List.map_append, List.pairwise_append] at this
    exact this.2.1
  have hB : ∀ r ∈ l.drop (atF l x), x < r.N := by
    intro r hr
    have hlt : atF l x < l.length := by
      rcases Nat.lt_or_ge (atF l x) l.length with h1 | h1
      · exact h1
      · rw [List.drop_of_length_le h1] at hr; cases hr
    have h1 := atF_next l x hlt
    have e : l.drop (atF l x) = l.getD (atF l x) default :: l.drop (atF l x + 1) := by
      rw [List.drop_eq_getElem_cons hlt, List.getD_eq_getElem?_getD, List.getElem?_eq_getElem hlt]; rfl
    rw [e] at hr hBs
    rcases List.mem_cons.1 hr with rfl | hr
    · exact h1
    · have := (List.pairwise_cons.1 hBs).1 r.N (List.mem_map_of_mem hr)
      omega
  have hlow := h.low
  rw [← List.take_append_drop (atF l x) l, low_app] at hlow
  obtain ⟨lA, lB⟩ := hlow
  have hcnt : cnt (l.take (atF l x)) + cnt (l.drop (atF l x)) = xs.length := by
    rw [← cnt_app, List.take_append_drop, h.all]
  have hc0 := (cnt_take_le h.gap (atF l x)).1
  have h1 : cnt (l.take (atF l x)) ≤ cle xs x := by
    have := low_cle xs x 0 _ lA hA (cle_nn xs x)
    omega
  -- what More is
  have hM : 0 ≤ moreF l (atF l x) ∧ clt xs x ≤ cnt (l.take (atF l x)) + moreF l (atF l x) ∧ cnt (l.take (atF l x)) + moreF l (atF l x) ≤ xs.length ∧ 1 + moreF l (atF l x) ≤ max (2 * cnt l / p) 1 := by
    by_cases hlt : atF l x < l.length
    · have e : l.drop (atF l x) = l.getD (atF l x) default :: l.drop (atF l x + 1) := by
        rw [List.drop_eq_getElem_cons hlt, List.getD_eq_getElem?_getD, List.getElem?_eq_getElem hlt]; rfl
      have hm := getD_mem l (atF l x) hlt
      have hN := atF_next l x hlt
      rw [e] at lB
      obtain ⟨b1, b2, b3, b4, b5⟩ := lB
      have hcl := clt_mono xs (Int.le_of_lt hN)
      have g1 := h.gap _ hm
      have g2 := h.more _ hm
      have g3 := h.few _ hm
      by_cases h0 : 0 < atF l x
      · unfold moreF
        rw [if_pos ⟨h0, hlt⟩]
        omega
      · have hz : atF l x = 0 := by omega
        have hd := h.head (l.getD (atF l x) default) (by
          rw [hz, List.head?_eq_getElem?, List.getD_eq_getElem?_getD, List.getElem?_eq_getElem (by omega)]; rfl)
        unfold moreF
        rw [if_neg (by omega)]
        omega
    · have hz : l.drop (atF l x) = [] := List.drop_of_length_le (by omega)
      rw [hz] at hcnt
      simp only [cnt] at hcnt
      have := clt_le_len xs x
      unfold moreF
      rw [if_neg (by omega)]
      omega
  obtain ⟨m1, m2, m3, m4⟩ := hM
  have hdiv : 2 * cnt l / p ≤ 2 * (cnt l + 1) / p := Int.ediv_le_ediv (by omega) (by omega)
  refine ⟨⟨?_, ?_, ?_, ?_, ?_, ?_, ?_⟩, m1⟩
  · show ((l.take (atF l x) ++ ⟨x, 1, moreF l (atF l x)⟩ :: l.drop (atF l x)).map Rk.N).Pairwise (· ≤ ·)
    have hs := h.srt
    unfold Srt at hs
    rw [← List.take_append_drop (atF l x) l, List.map_append, List.pairwise_append] at hs
    rw [List.map_append, List.map_cons, List.pairwise_append, List.pairwise_cons]
    refine ⟨hs.1, ⟨?_, hBs⟩, ?_⟩
    · intro y hy
      obtain ⟨r, hr, rfl⟩ := List.mem_map.1 hy
      exact Int.le_of_lt (hB r hr)
    · intro y hy z hz
      obtain ⟨r, hr, rfl⟩ := List.mem_map.1 hy
      rcases List.mem_cons.1 hz with rfl | hz
      · exact hA r hr
      · exact hs.2.2 _ hy z hz
  · show Low (xs ++ [x]) 0 (l.take (atF l x) ++ ⟨x, 1, moreF l (atF l x)⟩ :: l.drop (atF l x))
    rw [low_app]
    refine ⟨low_a xs x 0 _ lA hA, ?_, ?_, ?_, by simp, low_b xs x _ _ lB hB⟩
    · show 0 + cnt (l.take (atF l x)) + 1 ≤ cle (xs ++ [x]) x
      rw [cle_snoc, if_pos (Int.le_refl x)]; omega
    · show clt (xs ++ [x]) x + 1 ≤ 0 + cnt (l.take (atF l x)) + 1 + moreF l (atF l x)
      rw [clt_snoc, if_neg (Int.lt_irrefl x)]; omega
    · show 0 + cnt (l.take (atF l x)) + 1 + moreF l (atF l x) ≤ ((xs ++ [x]).length : Int)
      simp only [List.length_append, List.length_cons, List.length_nil]; omega
  · exact insL_all l _ _ h.gap (Int.le_refl 1)
  · exact insL_all (P := fun r => 0 ≤ r.More) l _ _ h.more m1
  · have e : cnt (addIn l x) = cnt l + 1 := insL_cnt l _ _
    rw [e]
    refine insL_all (P := fun r => r.Gap + r.More ≤ max (2 * (cnt l + 1) / p) 1) l _ _ (fun r hr => ?_) ?_
    · have := h.few r hr
      omega
    · show 1 + moreF l (atF l x) ≤ max (2 * (cnt l + 1) / p) 1
      omega
  · show cnt (insL l _ _) = _
    rw [insL_cnt, h.all]
    simp
  · intro r hr
    have hr' : (l.take (atF l x) ++ ⟨x, 1, moreF l (atF l x)⟩ :: l.drop (atF l x)).head? = some r := hr
    by_cases h0 : atF l x = 0
    · rw [h0] at hr'
      simp at hr'
      subst hr'
      exact ⟨rfl, by unfold moreF; rw [if_neg (by omega)]⟩
    · refine h.head r ?_
      cases l with
      | nil => simp at hat; exact absurd hat h0
      | cons s l =>
        obtain ⟨q, hq⟩ : ∃ q, atF (s :: l) x = q + 1 := ⟨atF (s :: l) x - 1, by omega⟩
        rw [hq] at hr'
        simpa using hr'
/-- Two become one. -/
theorem Inv.merged {p : Int} {xs : List Int} {l : List Rk} (h : Inv p xs l) (k : Nat) (h0 : 0 < k) (hk : k + 1 < l.length) (hb : big l k ≤ 2 * cnt l / p) : Inv p xs (mrg l k) := by
  have a1 := getD_mem l k (by omega)
  have a2 := getD_mem l (k + 1) hk
  have e := split2 l k hk
  have g1 := h.gap _ a1
  have g2 := h.gap _ a2
  unfold big at hb
  refine ⟨?_, ?_, mrg_all l k hk h.gap ?_, mrg_all (P := fun r => 0 ≤ r.More) l k hk h.more (h.more (l.getD (k + 1) default) a2), ?_, by rw [mrg_cnt l k hk]; exact h.all, ?_⟩
  · unfold Srt
    rw [mrg_eq l k hk]
    refine List.Pairwise.sublist ?_ h.srt
    conv => rhs; rw [e]
    simp only [List.map_append, List.map_cons]
    exact List.Sublist.append_left (List.sublist_cons_self _ _) _
  · have hl := h.low
    rw [e, low_app] at hl
    rw [mrg_eq l k hk, low_app]
    obtain ⟨lA, b1, b2, b3, b4, c1, c2, c3, c4, c5⟩ := hl
    refine ⟨lA, ?_, ?_, ?_, c4, ?_⟩
    · show _ + ((l.getD (k + 1) default).Gap + (l.getD k default).Gap) ≤ cle xs (l.getD (k + 1) default).N
      omega
    · show clt xs (l.getD (k + 1) default).N + 1 ≤ _ + ((l.getD (k + 1) default).Gap + (l.getD k default).Gap) + (l.getD (k + 1) default).More
      omega
    · show _ + ((l.getD (k + 1) default).Gap + (l.getD k default).Gap) + (l.getD (k + 1) default).More ≤ _
      omega
    · show Low xs (_ + ((l.getD (k + 1) default).Gap + (l.getD k default).Gap)) _
      rw [show ∀ c : Int, c + ((l.getD (k + 1) default).Gap + (l.getD k default).Gap) = c + (l.getD k default).Gap + (l.getD (k + 1) default).Gap by intro c; omega]
      exact c5
  · show 1 ≤ (l.getD (k + 1) default).Gap + (l.getD k default).Gap
    omega
  · rw [mrg_cnt l k hk]
    refine mrg_all (P := fun r => r.Gap + r.More ≤ max (2 * cnt l / p) 1) l k hk h.few ?_
    show (l.getD (k + 1) default).Gap + (l.getD k default).Gap + (l.getD (k + 1) default).More ≤ max (2 * cnt l / p) 1
    omega
  · intro r hr
    refine h.head r ?_
    rw [mrg_eq l k hk] at hr
    cases l with
    | nil => simp at hk
    | cons s l =>
      obtain ⟨q, rfl⟩ : ∃ q, k = q + 1 := ⟨k - 1, by omega⟩
      simpa using hr
theorem Inv.squeezed {p C : Int} {xs : List Int} : ∀ (k : Nat) {l : List Rk}, Inv p xs l → cnt l = C → (0 < k → k + 1 < l.length) → Inv p xs (sqF (2 * C / p) k l) ∧ (sqF (2 * C / p) k l).length ≤ l.length
  | 0, l, h, _, _ => ⟨h, Nat.le_refl _⟩
  | k + 1, l, h, hC, hk => by
    have hk := hk (by omega)
    unfold sqF sqS
    split
    · rename_i hb
      rw [← hC] at hb
      have h1 := h.merged (k + 1) (by omega) hk hb
      have h2 := mrg_len l (k + 1) hk
      obtain ⟨h3, h4⟩ := Inv.squeezed (C := C) k h1 (by rw [mrg_cnt l (k + 1) hk, hC]) (by omega)
      exact ⟨h3, by omega⟩
    · exact Inv.squeezed (C := C) k h hC (by omega)
/-- One has come. -/
theorem Inv.add {p : Int} {xs : List Int} {l : List Rk} (h : Inv p xs l) (hp : 1 ≤ p) (x : Int) : Inv p (xs ++ [x]) (addL p l x) ∧ (addL p l x).length ≤ l.length + 1 ∧ 0 ≤ moreF l (atF l x) := by
  obtain ⟨h1, h2⟩ := h.ins hp x
  have h3 : (addIn l x).length = l.length + 1 := insL_len l _ _ (atF_le l x)
  obtain ⟨h4, h5⟩ := Inv.squeezed (C := cnt (addIn l x)) ((addIn l x).length - 2) h1 rfl (by omega)
  exact ⟨h4, by rw [← h3]; exact h5, h2⟩
theorem Inv.moreF_le {p : Int} {xs : List Int} {l : List Rk} (h : Inv p xs l) (hp : 1 ≤ p) (x : Int) : moreF l (atF l x) ≤ xs.length := by
  have h1 := (h.ins hp x).1.low
  have h2 : Low (xs ++ [x]) 0 (l.take (atF l x) ++ ⟨x, 1, moreF l (atF l x)⟩ :: l.drop (atF l x)) := h1
  rw [low_app] at h2
  have h3 := h2.2.2.2.1
  have h4 := (cnt_take_le h.gap (atF l x)).1
  simp only [List.length_append, List.length_cons, List.length_nil] at h3
  omega
end Go.Proofs.YthaiopgmncnekaaGreatDoor.Qu
