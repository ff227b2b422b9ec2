/- The padded sides of DiceRound. No program in sight. No condition. -/
import Derived.Test.YthjdhnjclcijhaaSide
set_option linter.unusedSimpArgs false
set_option linter.unusedVariables false
namespace Go.Proofs.Ythjdhnjclcijhaa
theorem nd_add (a : List Int) (k i : Nat) : nd (List.replicate k 0 ++ a) (k + i) = nd a i := by rw [nd_pad, if_neg (by omega), show k + i - k = i by omega]
theorem moreT_pad (a b : List Int) (k : Nat) : moreT (List.replicate k 0 ++ a) (List.replicate k 0 ++ b) = moreT a b := by
  unfold moreT
  rw [show (List.replicate k (0 : Int) ++ a).length = k + a.length by simp, tot_add, tot_zero (fun i hi => tot_zero fun j _ => by
    unfold more; rw [nd_pad a, if_pos hi]; simp), Nat.zero_add]
  refine tot_congr fun i _ => ?_
  rw [show (List.replicate k (0 : Int) ++ b).length = k + b.length by simp, tot_add, tot_zero (fun j hj => by
    unfold more; rw [nd_pad b, if_pos hj]; simp), Nat.zero_add]
  refine tot_congr fun j _ => ?_
  unfold more
  rw [nd_add a, nd_add b]
  by_cases h : j < i
  · rw [if_pos h, if_pos (by omega)]
  · rw [if_neg h, if_neg (by omega)]
theorem sameT_pad (a b : List Int) (k : Nat) : sameT (List.replicate k 0 ++ a) (List.replicate k 0 ++ b) = sameT a b := by
  unfold sameT
  rw [show (List.replicate k (0 : Int) ++ a).length = k + a.length by simp, tot_add, tot_zero (fun i hi => tot_zero fun j _ => by
    unfold same; rw [nd_pad a, if_pos hi]; simp), Nat.zero_add]
  refine tot_congr fun i _ => ?_
  rw [show (List.replicate k (0 : Int) ++ b).length = k + b.length by simp, tot_add, tot_zero (fun j hj => by
    unfold same; rw [nd_pad b, if_pos hj]; simp), Nat.zero_add]
  refine tot_congr fun j _ => ?_
  unfold same
  rw [nd_add a, nd_add b]
  by_cases h : i = j
  · rw [if_pos h, if_pos (by omega)]
  · rw [if_neg h, if_neg (by omega)]
theorem getD_of_nd {zs : List Int} (i : Nat) (h : 0 ≤ zs.getD i 0) : zs.getD i 0 = (nd zs i : Int) := by unfold nd; omega
theorem pad_getD (a : List Int) (k i : Nat) : (List.replicate k 0 ++ a).getD i 0 = if i < k then 0 else a.getD (i - k) 0 := by
  by_cases h : i < k
  · rw [if_pos h, List.getD_eq_getElem?_getD, List.getElem?_append_left (by simpa using h)]; simp [List.getElem?_replicate, h]
  · rw [if_neg h, List.getD_eq_getElem?_getD, List.getElem?_append_right (by simp; omega)]; simp [List.getD_eq_getElem?_getD]
theorem RightL.pad {a : List Int} (h : RightL a) (h0 : 0 < a.length) {k : Nat} (hk : k + a.length ≤ 200) : RightL (List.replicate k 0 ++ a) := by
  have hl : (List.replicate k (0 : Int) ++ a).length = k + a.length := by simp
  refine ⟨by omega, fun _ => ?_, fun i hi => ?_⟩
  · rw [pad_getD, hl, if_neg (by omega), show k + a.length - 1 - k = a.length - 1 by omega]
    exact h.2.1 h0
  · rw [pad_getD]
    by_cases e : i < k
    · rw [if_pos e]; omega
    · rw [if_neg e]; exact h.2.2 _ (by omega)
theorem side_pad (zs : List Int) (M m n : Nat) : tabI (M + 1 + m) (cntS zs m n) = List.replicate m 0 ++ tabI (M + 1) (cntS zs 0 n) := by
  apply List.ext_getElem (by simp [tabI]; omega)
  intro i h1 h2
  rw [tabI_len] at h1
  have e : ∀ (l : List Int) (h : i < l.length), l[i] = l.getD i 0 := fun l h => by rw [List.getD_eq_getElem?_getD, List.getElem?_eq_getElem h]; rfl
  rw [e, e, tabI_get _ _ _ h1, pad_getD]
  by_cases h : i < m
  · rw [if_pos h]
    have : cntS zs m n i = 0 := by unfold cntS; exact tot_zero fun q _ => by rw [if_neg (by omega)]
    rw [this]; rfl
  · rw [if_neg h, tabI_get _ _ _ (by omega)]
    congr 1
    unfold cntS
    refine tot_congr fun q _ => ?_
    by_cases e : nd zs q + m = i
    · rw [if_pos e, if_pos (by omega)]
    · rw [if_neg e, if_neg (by omega)]
def fourL : Nat → List Int
  | 0 => [0, 0, 4, 4, 4, 4]
  | 1 => [3, 3, 3, 3, 3, 3]
  | 2 => [2, 2, 2, 2, 6, 6]
  | _ => [1, 1, 1, 5, 5, 5]
def fourM : Nat → Nat
  | 0 => 4
  | 1 => 3
  | 2 => 6
  | _ => 5
def sideL (m i : Nat) : List Int := List.replicate m 0 ++ tabI (fourM i + 1) (cntS (fourL i) 0 6)
theorem four_all : ((List.range 4).all fun i => decide (RightL (tabI (fourM i + 1) (cntS (fourL i) 0 6)))
    && decide (moreT (tabI (fourM i + 1) (cntS (fourL i) 0 6)) (tabI (fourM ((i + 1) % 4) + 1) (cntS (fourL ((i + 1) % 4)) 0 6)) = 24)
    && decide (sameT (tabI (fourM i + 1) (cntS (fourL i) 0 6)) (tabI (fourM ((i + 1) % 4) + 1) (cntS (fourL ((i + 1) % 4)) 0 6)) = 0)) = true := by decide +kernel
theorem round_facts (m : Nat) (hm : m ≤ 50) (i : Nat) (hi : i < 4) : RightL (sideL m i) ∧ moreT (sideL m i) (sideL m ((i + 1) % 4)) = 24 ∧ sameT (sideL m i) (sideL m ((i + 1) % 4)) = 0 := by
  have h := List.all_eq_true.1 four_all i (List.mem_range.2 hi)
  simp only [Bool.and_eq_true, decide_eq_true_eq] at h
  have hM : fourM i ≤ 6 := by
    match i, hi with
    | 0, _ => decide
    | 1, _ => decide
    | 2, _ => decide
    | 3, _ => decide
  refine ⟨h.1.1.pad (by rw [tabI_len]; omega) (by rw [tabI_len]; omega), ?_, ?_⟩
  · unfold sideL; rw [moreT_pad]; exact h.1.2
  · unfold sideL; rw [sameT_pad]; exact h.2
open Go.RowKit
theorem side_four (i : Nat) (hi : i < 4) (v : Value) (g m : Nat) (hm : m ≤ 50) (w : World) (h : Rd w v (fourL i)) (hk : w.cell? ⟨g, 0, none⟩ = some (.int .i64 m)) :
    Calls Try.prog 13 #[v, .pointer (some ⟨g, 0, none⟩)] w fun e w' => Below w.heap.size w w' ∧ ∃ u, e = .returned u ∧ Rd w' u (sideL m i) := by
  have hl : (fourL i).length = 6 := by
    match i, hi with
    | 0, _ => decide
    | 1, _ => decide
    | 2, _ => decide
    | 3, _ => decide
  have := side_any v (fourL i) g m (fourM i) hm (by
    match i, hi with
    | 0, _ => decide
    | 1, _ => decide
    | 2, _ => decide
    | 3, _ => decide) (by
    match i, hi with
    | 0, _ => decide
    | 1, _ => decide
    | 2, _ => decide
    | 3, _ => decide) (by omega) (by omega) (by
    match i, hi with
    | 0, _ => decide
    | 1, _ => decide
    | 2, _ => decide
    | 3, _ => decide) w h hk
  rw [side_pad, hl] at this
  exact this
end Go.Proofs.Ythjdhnjclcijhaa
