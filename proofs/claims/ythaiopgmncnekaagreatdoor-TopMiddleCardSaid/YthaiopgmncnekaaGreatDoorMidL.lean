/- TopMiddle: slices.ContainsFunc over ints with the question whether one is far; what is found in a summary of few. No condition. -/
import Derived.Test.YthaiopgmncnekaaGreatDoorQuFewL
import Derived.Test.YthaiopgmncnekaaGreatDoorQuFind
import Derived.Test.YthaiopgmncnekaaGreatDoorStatMed
import Derived.Test.YthaiopgmncnekaaGreatDoorAl
set_option linter.unusedSimpArgs false
set_option linter.unusedVariables false
set_option maxRecDepth 20000
namespace Go.Proofs.YthaiopgmncnekaaGreatDoor.Mid
open Go.RowKit
open Qu
def far (x : Int) : Bool := decide (x < -1000) || decide (1000 < x)
theorem far_any (x : Int) (w : World) : Calls Tryz.prog 6 #[.int .i64 x] w fun e w' => e = .returned (.bool (far x)) ∧ w' = w := by
  unfold far
  by_cases h : x < -1000
  · have q : decide (x < -1000) = true := decide_eq_true h
    go_enter Tryz.func6, Tryz.ntmps6
    go_wp2_with fail
    go_ret
    exact ⟨by simp [q], rfl⟩
  · have q : decide (x < -1000) = false := decide_eq_false h
    by_cases h2 : 1000 < x
    · have q2 : decide (1000 < x) = true := decide_eq_true h2
      go_enter Tryz.func6, Tryz.ntmps6
      go_wp2_with fail
      go_ret
      exact ⟨by simp [q, q2], rfl⟩
    · have q2 : decide (1000 < x) = false := decide_eq_false h2
      go_enter Tryz.func6, Tryz.ntmps6
      go_wp2_with fail
      go_ret
      exact ⟨by simp [q, q2], rfl⟩
def farL (zs : List Int) : Bool := zs.any far
theorem far_at {zs : List Int} {i : Nat} (hi : i < zs.length) (h : far (zs.getD i 0) = true) : farL zs = true := by
  unfold farL
  rw [List.any_eq_true]
  refine ⟨zs.getD i 0, ?_, h⟩
  rw [List.getD_eq_getElem?_getD, List.getElem?_eq_getElem hi]; exact List.getElem_mem _
theorem far_none {zs : List Int} (h : ∀ i, i < zs.length → far (zs.getD i 0) = false) : farL zs = false := by
  unfold farL
  rw [List.any_eq_false]
  intro l hl
  obtain ⟨i, hi, rfl⟩ := List.getElem_of_mem hl
  have := h i hi
  rw [List.getD_eq_getElem?_getD, List.getElem?_eq_getElem hi] at this
  have e : far zs[i] = false := this
  rw [e]; decide
def idxP (zs : List Int) (e : Ending) : Prop := ∃ z : Int, e = .returned (.int .i64 z) ∧ (farL zs = true → 0 ≤ z) ∧ (farL zs = false → z = -1)
theorem index_any (v : Value) (zs : List Int) (w : World) (h : Rd w v zs) :
    Calls Tryz.prog 12 #[v, .func (.func 6) #[] #[]] w fun e w' => idxP zs e ∧ w' = w := by
  obtain ⟨a, cap, rfl, h1, h2, hop⟩ := h.open
  have HOP := Lib.hid hop
  obtain ⟨n, hn⟩ : ∃ n, zs.length = n := ⟨_, rfl⟩
  have HN := Lib.hid hn
  rw [hn] at HOP h1 ⊢
  have HO := Lib.hid far_any
  clear h hop hn
  go_enter Tryz.func12, Tryz.ntmps12
  go_wp2_with fail
  go_loop [8] (fun iv => ∃ i : Nat, i ≤ n ∧ iv = .int .i64 i ∧ Hid (∀ j, j < i → far (zs.getD j 0) = false)) (fun iv => n - (intOf iv).toNat)
  case atStart => exact ⟨0, Nat.zero_le _, rfl, fun j hj => absurd hj (Nat.not_lt_zero j)⟩
  case round =>
    obtain ⟨i, hi, rfl, HJ⟩ := hrel
    by_cases hlt : i < n
    · have hlt2 : (i : Int) < (n : Int) := by omega
      obtain ⟨b, off, rfl, hb, hc⟩ := HOP.out i hlt
      have c1 := hc i hlt
      obtain ⟨x, hx⟩ : ∃ x, zs.getD i 0 = x := ⟨_, rfl⟩
      have HX := Lib.hid hx
      rw [hx] at c1
      clear hc hx
      cases hf : far x
      · have HO1 : Hid (∀ w, Calls Tryz.prog 6 #[.int .i64 x] w fun e w' => e = .returned (.bool false) ∧ w' = w) := fun w => by have := HO.out x w; rwa [hf] at this
        have HJ2 : Hid (∀ j, j < i + 1 → far (zs.getD j 0) = false) := fun j hj => by
          by_cases e : j = i
          · subst e; rw [HX.out]; exact hf
          · exact HJ.out j (by omega)
        clear hf
        go_wp2_with fail
        refine (HO1.out _).mono ?_
        rintro e w' ⟨rfl, rfl⟩
        go_wp2_with fail
        go_round
        case rel => exact ⟨i + 1, by omega, by go_num, HJ2.out⟩
        case measure => simp [intOf]; omega
      · have HO1 : Hid (∀ w, Calls Tryz.prog 6 #[.int .i64 x] w fun e w' => e = .returned (.bool true) ∧ w' = w) := fun w => by have := HO.out x w; rwa [hf] at this
        have HT : Hid (farL zs = true) := far_at (i := i) (by rw [HN.out]; exact hlt) (by rw [HX.out]; exact hf)
        clear hf
        go_wp2_with fail
        refine (HO1.out _).mono ?_
        rintro e w' ⟨rfl, rfl⟩
        go_wp2_with fail
        go_ret
        exact ⟨⟨_, rfl, fun _ => by omega, fun h => by rw [HT.out] at h; cases h⟩, rfl⟩
    · obtain rfl : i = n := by omega
      have HF : Hid (farL zs = false) := far_none fun j hj => HJ.out j (by rw [← HN.out]; exact hj)
      go_wp2_with fail
      go_ret
      exact ⟨⟨_, rfl, (fun h => by rw [HF.out] at h; cases h), fun _ => rfl⟩, rfl⟩
theorem contains_any (v : Value) (zs : List Int) (w : World) (h : Rd w v zs) :
    Calls Tryz.prog 5 #[v, .func (.func 6) #[] #[]] w fun e w' => e = .returned (.bool (farL zs)) ∧ w' = w := by
  have HI := Lib.hid (index_any v zs w h)
  obtain ⟨L, hL⟩ : ∃ L, farL zs = L := ⟨_, rfl⟩
  unfold idxP at HI
  rw [hL] at HI ⊢
  clear h hL
  cases L
  · go_enter Tryz.func5, Tryz.ntmps5
    go_wp2_with fail
    refine HI.out.mono ?_
    rintro e w' ⟨⟨z, rfl, -, hz⟩, rfl⟩
    obtain rfl : z = -1 := by first | exact hz rfl | exact hz trivial
    go_wp2_with fail
    go_ret
    exact ⟨rfl, rfl⟩
  · go_enter Tryz.func5, Tryz.ntmps5
    go_wp2_with fail
    refine HI.out.mono ?_
    rintro e w' ⟨⟨z, rfl, hz, -⟩, rfl⟩
    have hz : 0 ≤ z := by first | exact hz rfl | exact hz trivial
    have q : decide (0 ≤ z) = true := decide_eq_true hz
    go_wp2_with fail
    go_ret
    exact ⟨by simp [q], rfl⟩
/-- All of few come in. -/
theorem few_some : ∀ (zs ys : List Int) (l : List Rk), FewP ys l → ((ys ++ zs).length : Int) < 100 → ∃ l', allF 100 l zs = some l'
  | [], ys, l, _, _ => ⟨l, rfl⟩
  | x :: r, ys, l, h, hl => by
    have hlen : l.length = ys.length := by have := h.2.length_eq; simpa using this
    have hc : cnt l = l.length := few_cnt h.1
    have hl2 : ys.length + r.length + 1 < 100 := by simp only [List.length_append, List.length_cons] at hl; omega
    unfold allF
    rw [if_neg (by omega)]
    refine few_some r (ys ++ [x]) (Qu.addL 100 l x) (few_add h x (by omega)) ?_
    simp only [List.length_append, List.length_cons, List.length_nil]
    omega
/-- What is found in a summary of few: the one at the place. -/
theorem find_few {l : List Rk} (h : ∀ r ∈ l, r.Gap = 1 ∧ r.More = 0) (p : Nat) (h1 : 1 ≤ p) : ∀ k, 1 ≤ k → k ≤ l.length → fndS p (l.take k) = ((l.getD (min k p - 1) default).N, (p : Int) - (min k p : Nat), (k : Int))
  | 0, h0, _ => absurd h0 (by decide)
  | 1, _, hk => by
    have hg := h (l.getD 0 default) (by rw [List.getD_eq_getElem?_getD, List.getElem?_eq_getElem (by omega)]; exact List.getElem_mem _)
    rw [fndS_snoc _ l 0 (by omega)]
    unfold fstep dist
    rw [show fndS p (l.take 0) = (0, -1, 0) by simp [fndS]]
    simp only
    rw [if_pos (.inl (by decide)), hg.1, hg.2, show min 1 p = 1 by omega]
    simp only [Prod.mk.injEq]
    refine ⟨?_, ?_, ?_⟩ <;> first | rfl | trivial | omega
  | k + 2, _, hk => by
    have ih := find_few h p h1 (k + 1) (by omega) (by omega)
    have hg := h (l.getD (k + 1) default) (by rw [List.getD_eq_getElem?_getD, List.getElem?_eq_getElem (by omega)]; exact List.getElem_mem _)
    rw [fndS_snoc _ l (k + 1) (by omega), ih]
    unfold fstep dist
    simp only
    rw [hg.1, hg.2]
    by_cases hp : k + 2 ≤ p
    · rw [if_pos (.inr (by rw [show min (k + 1) p = k + 1 by omega]; omega)), show min (k + 2) p = k + 2 by omega]
      simp only [Prod.mk.injEq]
      refine ⟨?_, ?_, ?_⟩ <;> first | rfl | trivial | omega
    · rw [if_neg (by rw [show min (k + 1) p = p by omega]; omega), show min (k + 2) p = p by omega, show min (k + 1) p = p by omega]
      simp only [Prod.mk.injEq]
      refine ⟨?_, ?_, ?_⟩ <;> first | rfl | trivial | omega
theorem find_end {l : List Rk} {zs : List Int} (h : ∀ r ∈ l, r.Gap = 1 ∧ r.More = 0) (hs : l.map Rk.N = srt zs) (i : Nat) (hi : i < l.length) : (fndS ((i + 1 : Nat) : Int) l).1 = (srt zs).getD i 0 := by
  have := find_few h (i + 1) (by omega) l.length (by omega) (Nat.le_refl _)
  rw [List.take_of_length_le (Nat.le_refl _)] at this
  rw [this, ← hs, show min l.length (i + 1) = i + 1 by omega]
  simp [List.getD_eq_getElem?_getD, List.getElem?_map, List.getElem?_eq_getElem hi]
end Go.Proofs.YthaiopgmncnekaaGreatDoor.Mid
