/- PermBack: the plain law. No condition. -/
import Derived.Test.YtdneljpimocgfaaAl
set_option linter.unusedSimpArgs false
set_option linter.unusedVariables false
namespace Go.Proofs.Ytdneljpimocgfaa.permBack
open Go.RowKit Go.Proofs.Ytdneljpimocgfaa
/-! ### Numbers and their digits -/
theorem rq_rk {c : Nat → Nat} {n : Nat} (hc : ∀ k, k < n → c k < n - k) : ∀ {m : Nat}, m ≤ n → rq (rk c n n) m = rk c n (n - m)
  | 0, _ => rfl
  | m + 1, h => by
    rw [rq, rq_rk hc (by omega), show n - m = (n - (m + 1)) + 1 by omega, rk, show n - (n - (m + 1)) = m + 1 by omega]
    have := hc (n - (m + 1)) (by omega)
    rw [show n - (n - (m + 1)) = m + 1 by omega] at this
    rw [Nat.mul_comm, Nat.mul_add_div (Nat.succ_pos m), Nat.div_eq_of_lt this, Nat.add_zero]
theorem dg_rk {c : Nat → Nat} {n k : Nat} (hc : ∀ k, k < n → c k < n - k) (hk : k < n) : dgE n (rk c n n) k = c k := by
  unfold dgE
  rw [rq_rk hc (by omega), show n - (n - 1 - k) = k + 1 by omega, rk, Nat.mul_comm, Nat.mul_add_mod, Nat.mod_eq_of_lt (hc k hk)]
theorem rk_dg {r n : Nat} (h : rq r n = 0) : ∀ {i : Nat}, i ≤ n → rk (dgE n r) n i = rq r (n - i)
  | 0, _ => by rw [rk, Nat.sub_zero, h]
  | i + 1, hi => by
    rw [rk, rk_dg h (by omega), show n - i = (n - 1 - i) + 1 by omega, rq]
    unfold dgE
    rw [show n - i = (n - 1 - i) + 1 by omega, show n - (i + 1) = n - 1 - i by omega, Nat.mul_comm]
    exact Nat.div_add_mod _ _
theorem rk_congr {c c' : Nat → Nat} {n : Nat} (h : ∀ k, k < n → c k = c' k) : ∀ {i : Nat}, i ≤ n → rk c n i = rk c' n i
  | 0, _ => rfl
  | i + 1, hi => by rw [rk, rk, rk_congr h (by omega), h i (by omega)]
/-! ### Lists and their codes -/
def cdL : List Int → List Nat
  | [] => []
  | x :: xs => xs.countP (fun y => decide (y < x)) :: cdL xs
theorem cdL_len : ∀ l : List Int, (cdL l).length = l.length
  | [] => rfl
  | x :: xs => by rw [cdL, List.length_cons, List.length_cons, cdL_len xs]
theorem split_count {l1 l2 : List Int} {x : Int} (h : (l1 ++ x :: l2).Pairwise (· < ·)) : (l1 ++ l2).countP (fun y => decide (y < x)) = l1.length := by
  obtain ⟨_, h2, h3⟩ := List.pairwise_append.1 h
  obtain ⟨h4, _⟩ := List.pairwise_cons.1 h2
  rw [List.countP_append, List.countP_eq_length.2 (fun y hy => decide_eq_true (h3 y hy x List.mem_cons_self)), List.countP_eq_zero.2 (fun y hy => by
    have := h4 y hy
    simp; omega), Nat.add_zero]
theorem split_erase (l1 l2 : List Int) (x : Int) : (l1 ++ x :: l2).eraseIdx l1.length = l1 ++ l2 := by
  rw [List.eraseIdx_append_of_length_le (Nat.le_refl _), Nat.sub_self]; rfl
theorem split_sorted {l1 l2 : List Int} {x : Int} (h : (l1 ++ x :: l2).Pairwise (· < ·)) : (l1 ++ l2).Pairwise (· < ·) :=
  h.sublist (List.Sublist.append (List.Sublist.refl l1) (List.sublist_cons_self x l2))
theorem split_get (l1 l2 : List Int) (x : Int) : (l1 ++ x :: l2).getD l1.length 0 = x := by
  rw [List.getD_eq_getElem?_getD, List.getElem?_append_right (Nat.le_refl _), Nat.sub_self]; rfl
theorem pick_code : ∀ (p ls : List Int), ls.Pairwise (· < ·) → p.Perm ls → pick ls (cdL p) = p
  | [], ls, _, _ => by rw [cdL, pick.eq_def]
  | x :: xs, ls, hs, hp => by
    have hx : x ∈ ls := hp.mem_iff.1 List.mem_cons_self
    obtain ⟨l1, l2, rfl⟩ := List.append_of_mem hx
    have hp2 : xs.Perm (l1 ++ l2) := (List.perm_cons x).1 (hp.trans List.perm_middle)
    have hc : xs.countP (fun y => decide (y < x)) = l1.length := by rw [hp2.countP_eq, split_count hs]
    rw [cdL, hc, pick, split_get, split_erase, pick_code xs (l1 ++ l2) (split_sorted hs) hp2]
theorem code_pick : ∀ (c : List Nat) (ls : List Int), ls.Pairwise (· < ·) → c.length = ls.length → (∀ k, k < c.length → c.getD k 0 < ls.length - k) → (pick ls c).Perm ls ∧ cdL (pick ls c) = c
  | [], ls, _, hl, _ => by
    have : ls = [] := List.length_eq_zero_iff.1 hl.symm
    subst this
    exact ⟨List.Perm.refl _, rfl⟩
  | y :: cs, ls, hs, hl, hc => by
    have hy : y < ls.length := by simpa using hc 0 (by simp)
    have e : ls = ls.take y ++ ls[y] :: ls.drop (y + 1) := by
      rw [← List.drop_eq_getElem_cons hy, List.take_append_drop]
    obtain ⟨l1, x, l2, rfl, rfl⟩ : ∃ l1 x l2, ls = l1 ++ x :: l2 ∧ y = l1.length := ⟨ls.take y, ls[y], ls.drop (y + 1), e, by rw [List.length_take]; omega⟩
    rw [pick, split_get, split_erase]
    have hl2 : cs.length = (l1 ++ l2).length := by simp at hl ⊢; omega
    obtain ⟨h1, h2⟩ := code_pick cs (l1 ++ l2) (split_sorted hs) hl2 (fun k hk => by
      have := hc (k + 1) (by simp; omega)
      simp [List.getD_eq_getElem?_getD] at this ⊢
      omega)
    refine ⟨(List.Perm.cons x h1).trans List.perm_middle.symm, ?_⟩
    rw [cdL, h1.countP_eq, split_count hs, h2]
/-! ### Codes as functions of the place -/
theorem cn_count (zs : List Int) (k : Nat) : ∀ m, k + 1 + m ≤ zs.length → (∀ i, i < zs.length → zs.getD i 0 = (nd zs i : Int)) → ((zs.drop (k + 1)).take m).countP (fun y => decide (y < zs.getD k 0)) = cn (nd zs) k m
  | 0, _, _ => by rw [List.take_zero, cn]; rfl
  | m + 1, h, hn => by
    have hlt : k + 1 + m < zs.length := by omega
    rw [List.take_add_one, List.countP_append, cn_count zs k m (by omega) hn, cn, List.getElem?_drop, List.getElem?_eq_getElem hlt]
    congr 1
    have e1 := hn _ hlt
    rw [List.getD_eq_getElem?_getD, List.getElem?_eq_getElem hlt, Option.getD_some] at e1
    rw [e1, hn k (by omega)]
    by_cases hh : nd zs (k + 1 + m) < nd zs k
    · rw [if_pos hh]; simp [hh]
    · rw [if_neg hh]; simp; omega
theorem cdL_get : ∀ (l : List Int) (k : Nat), k < l.length → (cdL l).getD k 0 = (l.drop (k + 1)).countP (fun y => decide (y < l.getD k 0))
  | x :: xs, 0, _ => rfl
  | x :: xs, k + 1, h => by
    have := cdL_get xs k (by simpa using h)
    simpa [cdL, List.getD_eq_getElem?_getD] using this
theorem cdL_cd {zs : List Int} (hn : ∀ i, i < zs.length → zs.getD i 0 = (nd zs i : Int)) {k : Nat} (hk : k < zs.length) : (cdL zs).getD k 0 = cd (nd zs) zs.length k := by
  rw [cdL_get _ _ hk]
  unfold cd
  rw [← cn_count zs k (zs.length - 1 - k) (by omega) hn, List.take_of_length_le (by rw [List.length_drop]; omega)]
/-! ### Both ways round -/
theorem id_sorted (n : Nat) : (tabI n (fun k => k)).Pairwise (· < ·) := by
  unfold tabI
  exact List.pairwise_map.2 (List.pairwise_lt_range.imp fun h => Int.ofNat_lt.2 h)
theorem id_mem (n : Nat) (y : Int) : y ∈ tabI n (fun k => k) ↔ 0 ≤ y ∧ y < n := by
  unfold tabI
  rw [List.mem_map]
  constructor
  · rintro ⟨k, hk, rfl⟩
    have := List.mem_range.1 hk
    show 0 ≤ ((k : Nat) : Int) ∧ ((k : Nat) : Int) < n
    omega
  · intro h
    exact ⟨y.toNat, List.mem_range.2 (by omega), show ((y.toNat : Nat) : Int) = y by omega⟩
theorem okp_nodup {zs : List Int} (h : OkP zs) : zs.Nodup := by
  rw [List.nodup_iff_pairwise_ne, List.pairwise_iff_getElem]
  intro i j hi hj hij e
  have := h.2.2 j hj i hij
  rw [List.getD_eq_getElem?_getD, List.getElem?_eq_getElem hj, List.getD_eq_getElem?_getD, List.getElem?_eq_getElem hi] at this
  exact this e.symm
theorem okp_perm {zs : List Int} (h : OkP zs) : zs.Perm (tabI zs.length (fun k => k)) := by
  refine (List.perm_ext_iff_of_nodup (okp_nodup h) ((id_sorted _).imp fun h => by omega)).2 fun y => ?_
  rw [id_mem]
  constructor
  · intro hy
    obtain ⟨i, hi, rfl⟩ := List.getElem_of_mem hy
    have := h.2.1 i hi
    rwa [List.getD_eq_getElem?_getD, List.getElem?_eq_getElem hi] at this
  · intro hy
    obtain ⟨i, hi, e⟩ := onto zs.length (nd zs) (fun i hi => h.lt hi) (fun i j hi hj e => h.inj hi hj e) y.toNat (by omega)
    have e2 := h.nd hi
    rw [e, List.getD_eq_getElem?_getD, List.getElem?_eq_getElem hi, Option.getD_some] at e2
    rw [show y = zs[i] by rw [e2]; omega]
    exact List.getElem_mem hi
theorem perm_okp {zs : List Int} {n : Nat} (hn : n ≤ 20) (h : zs.Perm (tabI n (fun k => k))) : OkP zs ∧ zs.length = n := by
  have hl : zs.length = n := by rw [h.length_eq, tabI_len]
  refine ⟨⟨by omega, fun i hi => ?_, fun i hi j hj e => ?_⟩, hl⟩
  · have := (id_mem n zs[i]).1 (h.mem_iff.1 (List.getElem_mem hi))
    rw [List.getD_eq_getElem?_getD, List.getElem?_eq_getElem hi, Option.getD_some]
    omega
  · have hnd : zs.Nodup := (List.Perm.nodup_iff h).2 ((id_sorted n).imp fun h => by omega)
    rw [List.nodup_iff_pairwise_ne, List.pairwise_iff_getElem] at hnd
    rw [List.getD_eq_getElem?_getD, List.getElem?_eq_getElem hi, List.getD_eq_getElem?_getD, List.getElem?_eq_getElem (show j < zs.length by omega)] at e
    exact hnd j i (by omega) hi hj e.symm
theorem digs_get (n r : Nat) {k : Nat} (hk : k < n) : (digs n r).getD k 0 = dgE n r k := by
  unfold digs
  simp [List.getD_eq_getElem?_getD, List.getElem?_map, List.getElem?_range, hk]
theorem nat_ext {l m : List Nat} (h : l.length = m.length) (e : ∀ k, k < l.length → l.getD k 0 = m.getD k 0) : l = m := by
  apply List.ext_getElem h
  intro i h1 h2
  have := e i h1
  simpa [List.getD_eq_getElem?_getD, h1, h2] using this
theorem at_rank {zs : List Int} (h : OkP zs) : rq (rkP zs) zs.length = 0 ∧ atL zs.length (rkP zs) = zs := by
  have hc : ∀ k, k < zs.length → cd (nd zs) zs.length k < zs.length - k := fun k hk => by have := cd_le (nd zs) zs.length k; omega
  have e : digs zs.length (rkP zs) = cdL zs := by
    refine nat_ext (by rw [digs_len, cdL_len]) fun k hk => ?_
    rw [digs_len] at hk
    rw [digs_get _ _ hk, cdL_cd (fun i hi => h.nd hi) hk]
    exact dg_rk hc hk
  refine ⟨?_, ?_⟩
  · unfold rkP
    rw [rq_rk hc (Nat.le_refl _), Nat.sub_self]; rfl
  · unfold atL
    rw [e]
    exact pick_code _ _ (id_sorted _) (okp_perm h)
theorem rank_at {n r : Nat} (hn : n ≤ 20) (h : rq r n = 0) : OkP (atL n r) ∧ (atL n r).length = n ∧ rkP (atL n r) = r := by
  obtain ⟨h1, h2⟩ := code_pick (digs n r) (tabI n (fun k => k)) (id_sorted n) (by rw [digs_len, tabI_len]) (fun k hk => by
    rw [digs_len] at hk
    rw [digs_get _ _ hk, tabI_len]
    exact Nat.mod_lt _ (by omega))
  obtain ⟨h3, h4⟩ := perm_okp hn h1
  refine ⟨h3, h4, ?_⟩
  have h4 : (atL n r).length = n := h4
  unfold rkP
  rw [h4]
  have e : ∀ k, k < n → cd (nd (atL n r)) n k = dgE n r k := fun k hk => by
    have := cdL_cd (zs := atL n r) (fun i hi => h3.nd hi) (k := k) (by omega)
    rw [h4] at this
    rw [← this, show cdL (atL n r) = digs n r from h2, digs_get _ _ hk]
  rw [rk_congr e (Nat.le_refl _), rk_dg h (Nat.le_refl _), Nat.sub_self]; rfl
end Go.Proofs.Ytdneljpimocgfaa.permBack
