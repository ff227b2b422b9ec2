/- slices.ContainsFunc over rows with the question whether a row has just one: what it answers. No condition. -/
import Derived.Test.YthaiopgmncnekaaDoorCycMat
set_option linter.unusedSimpArgs false
set_option linter.unusedVariables false
set_option maxRecDepth 20000
namespace Go.Proofs.YthaiopgmncnekaaDoor.Stay
open Go.RowKit Go.Proofs.YthaiopgmncnekaaDoor.Cyc
theorem one_any (a : Option Addr) (n c : Nat) (w : World) : Calls Tryd.prog 17 #[.slice a n c] w fun e w' => e = .returned (.bool (decide (n = 1))) ∧ w' = w := by
  by_cases h : n = 1
  · subst h
    go_enter Tryd.func17, Tryd.ntmps17
    go_wp2_with fail
    go_ret
    exact ⟨rfl, rfl⟩
  · have q : ((n : Int) == 1) = false := by rw [beq_eq_false_iff_ne]; omega
    have q2 : decide ((n : Int) = 1) = false := decide_eq_false (by omega)
    rw [decide_eq_false h]
    go_enter Tryd.func17, Tryd.ntmps17
    go_wp2_with fail
    go_ret
    exact ⟨by simp, rfl⟩
def loneL (zss : List (List Int)) : Bool := zss.any fun l => l.length == 1
theorem lone_at {zss : List (List Int)} {i : Nat} (hi : i < zss.length) (h : (zss.getD i []).length = 1) : loneL zss = true := by
  unfold loneL
  rw [List.any_eq_true]
  refine ⟨zss.getD i [], ?_, by show ((zss.getD i []).length == 1) = true; rw [h]; rfl⟩
  rw [List.getD_eq_getElem?_getD, List.getElem?_eq_getElem hi]; exact List.getElem_mem _
theorem lone_none {zss : List (List Int)} (h : ∀ i, i < zss.length → (zss.getD i []).length ≠ 1) : loneL zss = false := by
  unfold loneL
  rw [List.any_eq_false]
  intro l hl
  obtain ⟨i, hi, rfl⟩ := List.getElem_of_mem hl
  have := h i hi
  rw [List.getD_eq_getElem?_getD, List.getElem?_eq_getElem hi] at this
  simpa using this
def idxP (zss : List (List Int)) (e : Ending) : Prop := ∃ z : Int, e = .returned (.int .i64 z) ∧ (loneL zss = true → 0 ≤ z) ∧ (loneL zss = false → z = -1)
set_option maxRecDepth 20000 in
theorem index_any (v : Value) (zss : List (List Int)) (w : World) (h : RdM w v zss) :
    Calls Tryd.prog 39 #[v, .func (.func 17) #[] #[]] w fun e w' => idxP zss e ∧ w' = w := by
  obtain ⟨a, cap, rfl, h1, h2, hop⟩ := h.open
  have HOP := Lib.hid hop
  obtain ⟨n, hn⟩ : ∃ n, zss.length = n := ⟨_, rfl⟩
  have HN := Lib.hid hn
  rw [hn] at HOP h1 ⊢
  have HO := Lib.hid one_any
  have HP : Hid (∀ e, idxP zss e = ∃ z : Int, e = .returned (.int .i64 z) ∧ (loneL zss = true → 0 ≤ z) ∧ (loneL zss = false → z = -1)) := fun e => rfl
  clear h hop hn
  go_enter Tryd.func39, Tryd.ntmps39
  go_wp2_with fail
  go_loop [8] (fun iv => ∃ i : Nat, i ≤ n ∧ iv = .int .i64 i ∧ Hid (∀ j, j < i → (zss.getD j []).length ≠ 1)) (fun iv => n - (intOf iv).toNat)
  case atStart => exact ⟨0, Nat.zero_le _, rfl, fun j hj => absurd hj (Nat.not_lt_zero j)⟩
  case round =>
    obtain ⟨i, hi, rfl, HJ⟩ := hrel
    by_cases hlt : i < n
    · have hlt2 : (i : Int) < (n : Int) := by omega
      obtain ⟨b, off, U, rfl, hb, hc⟩ := HOP.out (by omega)
      obtain ⟨c1, c2⟩ := hc i hlt
      obtain ⟨a2, k2, he, -, -, -⟩ := c2.open
      obtain ⟨m, hm⟩ : ∃ m, (zss.getD i []).length = m := ⟨_, rfl⟩
      have HM := Lib.hid hm
      rw [hm] at he
      rw [he] at c1
      clear hc c2 he hm
      by_cases h1m : m = 1
      · have HO1 : Hid (∀ w, Calls Tryd.prog 17 #[.slice a2 m k2] w fun e w' => e = .returned (.bool true) ∧ w' = w) := fun w => by have := HO.out a2 m k2 w; rwa [decide_eq_true h1m] at this
        have HT : Hid (loneL zss = true) := lone_at (i := i) (by rw [HN.out]; exact hlt) (by rw [HM.out]; exact h1m)
        clear h1m
        go_wp2_with fail
        refine (HO1.out _).mono ?_
        rintro e w' ⟨rfl, rfl⟩
        go_wp2_with fail
        go_ret
        exact ⟨⟨_, rfl, fun _ => by omega, fun h => by rw [HT.out] at h; cases h⟩, rfl⟩
      · have HO1 : Hid (∀ w, Calls Tryd.prog 17 #[.slice a2 m k2] w fun e w' => e = .returned (.bool false) ∧ w' = w) := fun w => by have := HO.out a2 m k2 w; rwa [decide_eq_false h1m] at this
        have HJ2 : Hid (∀ j, j < i + 1 → (zss.getD j []).length ≠ 1) := fun j hj => by
          by_cases e : j = i
          · subst e; rw [HM.out]; exact h1m
          · exact HJ.out j (by omega)
        clear h1m
        go_wp2_with fail
        refine (HO1.out _).mono ?_
        rintro e w' ⟨rfl, rfl⟩
        go_wp2_with fail
        go_round
        case rel => exact ⟨i + 1, by omega, by go_num, HJ2.out⟩
        case measure => simp [intOf]; omega
    · obtain rfl : i = n := by omega
      have HF : Hid (loneL zss = false) := lone_none fun j hj => HJ.out j (by rw [← HN.out]; exact hj)
      go_wp2_with fail
      go_ret
      exact ⟨⟨_, rfl, (fun h => by rw [HF.out] at h; cases h), fun _ => rfl⟩, rfl⟩
theorem contains_any (v : Value) (zss : List (List Int)) (w : World) (h : RdM w v zss) :
    Calls Tryd.prog 16 #[v, .func (.func 17) #[] #[]] w fun e w' => e = .returned (.bool (loneL zss)) ∧ w' = w := by
  have HI := Lib.hid (index_any v zss w h)
  obtain ⟨L, hL⟩ : ∃ L, loneL zss = L := ⟨_, rfl⟩
  unfold idxP at HI
  rw [hL] at HI ⊢
  clear h hL
  cases L
  · go_enter Tryd.func16, Tryd.ntmps16
    go_wp2_with fail
    refine HI.out.mono ?_
    rintro e w' ⟨⟨z, rfl, -, hz⟩, rfl⟩
    obtain rfl : z = -1 := by first | exact hz rfl | exact hz trivial
    go_wp2_with fail
    go_ret
    exact ⟨rfl, rfl⟩
  · go_enter Tryd.func16, Tryd.ntmps16
    go_wp2_with fail
    refine HI.out.mono ?_
    rintro e w' ⟨⟨z, rfl, hz, -⟩, rfl⟩
    have hz : 0 ≤ z := by first | exact hz rfl | exact hz trivial
    have q : decide (0 ≤ z) = true := decide_eq_true hz
    go_wp2_with fail
    go_ret
    exact ⟨by simp [q], rfl⟩
end Go.Proofs.YthaiopgmncnekaaDoor.Stay
