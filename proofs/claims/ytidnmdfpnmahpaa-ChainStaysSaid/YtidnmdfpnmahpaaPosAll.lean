/- What chain.Rest answers for a chain where every state reaches every other: above nought, in lowest terms. No condition. -/
import Derived.Test.YtidnmdfpnmahpaaPosL
import Derived.Test.YtidnmdfpnmahpaaBackL
set_option linter.unusedSimpArgs false
set_option linter.unusedVariables false
set_option maxRecDepth 100000
namespace Go.Proofs.Ytidnmdfpnmahpaa
open Go.RowKit
theorem rj_in {P : Nat → Bool} {i : Nat} {O : Nat → Prop} (hP : O i → ∀ k, P k = true → O k) : ∀ j (f : Nat → Bool), (∀ x, f x = true → O x) → ∀ x, rj P i j f x = true → O x
  | 0, f, h, x, hx => h x hx
  | j + 1, f, h, x, hx => by
    have ih := rj_in hP j f h
    unfold rj at hx
    split at hx
    · rename_i hc
      rw [Bool.and_eq_true] at hc
      unfold updB at hx
      split at hx
      · rename_i e; rw [e]; exact hP (ih i hc.1) j hc.2
      · exact ih x hx
    · exact ih x hx
theorem ri_in {P : Nat → Nat → Bool} {n : Nat} {O : Nat → Prop} (hP : ∀ i, i < n → O i → ∀ k, P i k = true → O k) : ∀ i, i ≤ n → ∀ (f : Nat → Bool), (∀ x, f x = true → O x) → ∀ x, ri P n i f x = true → O x
  | 0, _, f, h, x, hx => h x hx
  | i + 1, hi, f, h, x, hx => rj_in (hP i (by omega)) n _ (ri_in hP i (by omega) f h) x hx
theorem rr_in {P : Nat → Nat → Bool} {n : Nat} {O : Nat → Prop} (hP : ∀ i, i < n → O i → ∀ k, P i k = true → O k) : ∀ t (f : Nat → Bool), (∀ x, f x = true → O x) → ∀ x, rr P n t f x = true → O x
  | 0, f, h, x, hx => h x hx
  | t + 1, f, h, x, hx => ri_in hP n (Nat.le_refl _) _ (rr_in hP t f h) x hx
/-- A set that is not all has a way into it from without. -/
theorem way_in {P : Nat → Nat → Bool} {n : Nat} (hw : wholeF P n = true) (S : List Nat) (j k : Nat) (hj : j < n) (hjS : j ∈ S) (hk : k < n) (hkS : k ∉ S) : ∃ i, i < n ∧ i ∉ S ∧ ∃ s, s ∈ S ∧ P i s = true := by
  refine Classical.byContradiction fun hno => ?_
  have hr : reachF P n k j = true := by
    have h1 := List.all_eq_true.1 hw k (List.mem_range.2 hk)
    exact List.all_eq_true.1 h1 j (List.mem_range.2 hj)
  refine rr_in (O := fun x => x ∉ S) (n := n) (P := P) (fun i hi hO x hx hxS => hno ⟨i, hi, hO, x, hxS, hx⟩) n (updB (fun _ => false) k) (fun x hx => ?_) j hr hjS
  unfold updB at hx
  split at hx
  · rename_i e; rw [e]; exact hkS
  · cases hx
theorem sub_len : ∀ (l S : List Nat), l.Nodup → (∀ x ∈ l, x ∈ S) → l.length ≤ S.length
  | [], _, _, _ => Nat.zero_le _
  | x :: r, S, hn, h => by
    have hx := h x List.mem_cons_self
    rw [List.nodup_cons] at hn
    have := sub_len r (S.erase x) hn.2 fun y hy => (List.mem_erase_of_ne (fun e => hn.1 (by rw [← e]; exact hy))).2 (h y (List.mem_cons_of_mem _ hy))
    rw [List.length_erase_of_mem hx] at this
    have hp := List.length_pos_of_mem hx
    rw [List.length_cons]; omega
theorem out_of {n : Nat} (S : List Nat) (h : S.length < n) : ∃ k, k < n ∧ k ∉ S := by
  refine Classical.byContradiction fun hno => ?_
  have := sub_len (List.range n) S List.nodup_range fun x hx => Classical.byContradiction fun hx2 => hno ⟨x, List.mem_range.1 hx, hx2⟩
  rw [List.length_range] at this
  omega
structure Tr (P : Nat → Nat → Bool) (n j : Nat) (S : List Nat) (p : Nat → Nat) : Prop where
  nd : S.Nodup
  root : p j = j
  mem : j ∈ S
  lt : ∀ x ∈ S, x < n
  closed : ∀ x ∈ S, p x ∈ S
  edge : ∀ x ∈ S, x ≠ j → P x (p x) = true
  it : ∀ x ∈ S, itP p S.length x = j
theorem itP_same {S : List Nat} {p p' : Nat → Nat} (h : ∀ x ∈ S, p' x = p x) (hc : ∀ x ∈ S, p x ∈ S) : ∀ m x, x ∈ S → itP p' m x = itP p m x
  | 0, _, _ => rfl
  | m + 1, x, hx => by
    show itP p' m (p' x) = itP p m (p x)
    rw [h x hx]; exact itP_same h hc m _ (hc x hx)
theorem tr_grow {P : Nat → Nat → Bool} {n : Nat} (hw : wholeF P n = true) (j : Nat) (hj : j < n) : ∀ m, m < n → ∃ S p, S.length = m + 1 ∧ Tr P n j S p
  | 0, _ => ⟨[j], fun x => x, rfl, by simp, rfl, List.mem_singleton.2 rfl, fun x hx => by rw [List.mem_singleton.1 hx]; exact hj, fun x hx => hx, fun x hx hne => absurd (List.mem_singleton.1 hx) hne, fun x hx => List.mem_singleton.1 hx⟩
  | m + 1, hm => by
    obtain ⟨S, p, hl, ht⟩ := tr_grow hw j hj m (by omega)
    obtain ⟨k, hk, hkS⟩ := out_of S (n := n) (by omega)
    obtain ⟨i, hi, hiS, s, hs, hP⟩ := way_in hw S j k hj ht.mem hk hkS
    have hne : ∀ x ∈ S, x ≠ i := fun x hx e => hiS (by rw [← e]; exact hx)
    have hsame : ∀ x ∈ S, (fun x => if x = i then s else p x) x = p x := fun x hx => if_neg (hne x hx)
    refine ⟨i :: S, fun x => if x = i then s else p x, by rw [List.length_cons, hl], List.nodup_cons.2 ⟨hiS, ht.nd⟩, ?_, List.mem_cons_of_mem _ ht.mem, fun x hx => ?_, fun x hx => ?_, fun x hx hxj => ?_, fun x hx => ?_⟩
    · show (if j = i then s else p j) = j
      rw [if_neg (hne j ht.mem)]; exact ht.root
    · rcases List.mem_cons.1 hx with rfl | hx
      · exact hi
      · exact ht.lt x hx
    · show (if x = i then s else p x) ∈ i :: S
      rcases List.mem_cons.1 hx with rfl | hx
      · rw [if_pos rfl]; exact List.mem_cons_of_mem _ hs
      · rw [if_neg (hne x hx)]; exact List.mem_cons_of_mem _ (ht.closed x hx)
    · show P x (if x = i then s else p x) = true
      rcases List.mem_cons.1 hx with rfl | hx
      · rw [if_pos rfl]; exact hP
      · rw [if_neg (hne x hx)]; exact ht.edge x hx hxj
    · rw [List.length_cons]
      show itP _ S.length (if x = i then s else p x) = j
      rcases List.mem_cons.1 hx with rfl | hx
      · rw [if_pos rfl, itP_same hsame ht.closed _ _ hs]; exact ht.it s hs
      · rw [if_neg (hne x hx), itP_same hsame ht.closed _ _ (ht.closed x hx)]; exact ht.it _ (ht.closed x hx)
theorem tr_all {P : Nat → Nat → Bool} {n : Nat} (hw : wholeF P n = true) (j : Nat) (hj : j < n) : ∃ p : Nat → Nat, p j = j ∧ (∀ i, i < n → p i < n) ∧ (∀ i, i < n → i ≠ j → P i (p i) = true) ∧ ∀ i, i < n → itP p n i = j := by
  obtain ⟨S, p, hl, ht⟩ := tr_grow hw j hj (n - 1) (by omega)
  have hln : S.length = n := by omega
  have hall : ∀ i, i < n → i ∈ S := fun i hi => Classical.byContradiction fun hno => by
    have h1 := sub_len (i :: S) (List.range n) (List.nodup_cons.2 ⟨hno, ht.nd⟩) fun x hx => List.mem_range.2 (by
      rcases List.mem_cons.1 hx with rfl | hx
      · exact hi
      · exact ht.lt x hx)
    rw [List.length_cons, List.length_range] at h1
    omega
  exact ⟨p, ht.root, fun i hi => ht.lt _ (ht.closed i (hall i hi)), fun i hi hne => ht.edge i (hall i hi) hne, fun i hi => by rw [← hln]; exact ht.it i (hall i hi)⟩
theorem chk_all {n : Nat} (h1 : 1 ≤ n) (h5 : n ≤ 5) : chkN n = true := by
  rcases (show n = 1 ∨ n = 2 ∨ n = 3 ∨ n = 4 ∨ n = 5 by omega) with rfl | rfl | rfl | rfl | rfl
  · exact chk1
  · exact chk2
  · exact chk3
  · exact chk4
  · exact chk5
theorem tree_det {n : Nat} (h1 : 1 ≤ n) (h5 : n ≤ 5) (j : Nat) (hj : j < n) (p : Nat → Nat) (hr : p j = j) (hp : ∀ i, i < n → p i < n) (hi : ∀ i, i < n → itP p n i = j) : 0 < detL (n - 1) (lap ((List.range n).map fun i => eR n (p i)) n n j) := by
  have hc := List.all_eq_true.1 (chk_all h1 h5) j (List.mem_range.2 hj)
  have hm : (List.range n).map p ∈ allQ n n := by
    have := mem_allQ n ((List.range n).map p) fun x hx => by
      obtain ⟨i, h, rfl⟩ := List.mem_map.1 hx
      exact hp i (List.mem_range.1 h)
    rwa [List.length_map, List.length_range] at this
  have hq := List.all_eq_true.1 hc _ hm
  have hit : ∀ m i, i < n → itP (fun x => ((List.range n).map p).getD x 0) m i = itP p m i := by
    intro m
    induction m with
    | zero => intro i _; rfl
    | succ m ih =>
      intro i hi
      show itP _ m (((List.range n).map p).getD i 0) = itP p m (p i)
      rw [getD_range _ _ _ _ hi]; exact ih _ (hp i hi)
  unfold chkQ at hq
  rw [Bool.or_eq_true] at hq
  rcases hq with hq | hq
  · exfalso
    rw [Bool.not_eq_true', Bool.and_eq_false_iff] at hq
    rcases hq with hq | hq
    · rw [getD_range _ _ _ _ hj, hr] at hq; simp at hq
    · have : ((List.range n).all fun i => itP (fun x => ((List.range n).map p).getD x 0) n i == j) = true := List.all_eq_true.2 fun i h => by
        rw [hit n i (List.mem_range.1 h), hi i (List.mem_range.1 h)]; simp
      rw [this] at hq; cases hq
  · have := of_decide_eq_true hq
    rwa [List.map_map] at this
theorem lap_pos {n : Nat} {M : List (List Int)} (h : Good n M) (hw : wholeF (posM M) n = true) (j : Nat) (hj : j < n) : 0 < detL (n - 1) (lap M n n j) := by
  obtain ⟨p, hr, hp, he, hi⟩ := tr_all hw j hj
  have h1 : rowsT M n p n = (List.range n).map fun i => eR n (p i) := by
    unfold rowsT
    exact List.map_congr_left fun i hi => if_pos (List.mem_range.1 hi)
  have h2 := det_down h p hp j hj (fun i hi hne => by have := he i hi hne; unfold posM at this; exact of_decide_eq_true this) (by rw [h1]; exact tree_det h.2.1 h.2.2.1 j hj p hr hp hi) n (Nat.le_refl _)
  rw [Nat.sub_self, rowsT_zero h.1] at h2
  exact h2
theorem rest_pos {n : Nat} {M : List (List Int)} (h : Good n M) (hw : wholeF (posM M) n = true) (i : Nat) (hi : i < n) : 1 ≤ (restN M n).getD i 0 := by
  obtain ⟨c, h1, h2⟩ := lowN_mul ((List.range n).map (outN M n))
  have h3 := restN_get h i hi
  have h4 : 0 < outV M n i := Int.mul_pos (lap_pos h hw i hi) (sum_bd45 h i hi).1
  have h5 := h2 i
  unfold restN
  rcases Nat.eq_zero_or_pos ((lowN ((List.range n).map (outN M n))).getD i 0) with h6 | h6
  · rw [h6, Nat.mul_zero] at h5; omega
  · exact h6
theorem dvd_gcdF (d : Nat) : ∀ (l : List Nat) (g : Nat), (∀ x ∈ l, d ∣ x) → d ∣ g → d ∣ gcdF l g
  | [], g, _, h => h
  | x :: r, g, h, hg => dvd_gcdF d r _ (fun y hy => h y (List.mem_cons_of_mem _ hy)) (Nat.dvd_gcd (h x List.mem_cons_self) hg)
theorem low_one (l : List Nat) (h : ∃ x ∈ l, 0 < x) : gcdF (lowN l) 0 = 1 := by
  obtain ⟨x, hx, h0⟩ := h
  have hd := (gcdF_dvd l 0).2
  have hg : 0 < gcdF l 0 := Nat.pos_of_dvd_of_pos (hd x hx) h0
  unfold lowN
  by_cases h1 : 1 < gcdF l 0
  · rw [if_pos h1]
    generalize hG : gcdF l 0 = G at *
    have h2 : gcdF (l.map (· / G)) 0 * G ∣ gcdF l 0 := dvd_gcdF _ l 0 (fun y hy => by
      have h3 := (gcdF_dvd (l.map (· / G)) 0).2 (y / G) (List.mem_map.2 ⟨y, hy, rfl⟩)
      have h4 : y / G * G = y := Nat.div_mul_cancel (hd y hy)
      rw [← h4]
      exact Nat.mul_dvd_mul_right h3 G) (Nat.dvd_zero _)
    rw [hG] at h2
    have h5 := Nat.le_of_dvd hg h2
    rcases Nat.lt_or_ge 1 (gcdF (l.map (· / G)) 0) with h6 | h6
    · have : 2 * G ≤ gcdF (l.map (· / G)) 0 * G := Nat.mul_le_mul_right _ h6
      omega
    · have h7 : gcdF (l.map (· / G)) 0 ≠ 0 := fun e => by
        rw [e, Nat.zero_mul] at h2
        have := Nat.eq_zero_of_zero_dvd h2
        omega
      omega
  · rw [if_neg h1]; omega
theorem rest_one {n : Nat} {M : List (List Int)} (h : Good n M) (hw : wholeF (posM M) n = true) : gcdF (restN M n) 0 = 1 := by
  have h1 := h.2.1
  refine low_one _ ⟨outN M n 0, List.mem_map.2 ⟨0, List.mem_range.2 (by omega), rfl⟩, ?_⟩
  have h4 : 0 < outV M n 0 := Int.mul_pos (lap_pos h hw 0 (by omega)) (sum_bd45 h 0 (by omega)).1
  unfold outN; omega
end Go.Proofs.Ytidnmdfpnmahpaa
