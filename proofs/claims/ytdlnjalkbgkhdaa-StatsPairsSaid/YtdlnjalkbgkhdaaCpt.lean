/- slices.Compact of a row of one's own: how many it leaves; when no more than one. No condition. -/
import Derived.Test.YtdlnjalkbgkhdaaMomL
import Derived.Test.YtdlnjalkbgkhdaaSorted
import Derived.Test.YtdlnjalkbgkhdaaShelfC
set_option linter.unusedSimpArgs false
set_option linter.unusedVariables false
namespace Go.Proofs.Ytdlnjalkbgkhdaa
open Go.RowKit
theorem grownBy_put {w : World} {g n : Nat} (d : Array Int) : w.grownBy (Sort.putRow (Value.int .i64) (Sort.ahead w n) g 0 d) (some g) := by
  refine ⟨rfl, rfl, rfl, by simp [Sort.putRow, Sort.mapBlock, Sort.ahead], fun k hk hne => ?_⟩
  have : g ≠ k := fun e => hne (by rw [e])
  simp [Sort.putRow, Sort.mapBlock, Sort.ahead, Array.getElem?_modify, this]
theorem compact_any (base : Nat) (v : Value) (n : Nat) (zs : List Int) (w : World) (h : w.ownsRow base 3 1 v n (zs.map (Value.int .i64))) (hn : zs.length = n) (hm : n ≤ 17592186044416) :
    Calls Try.prog 17 #[v] w fun e w' => (∃ a c, e = .returned (.slice a (Lib.compact zs).length c)) ∧ Below base w w' := by
  subst hn
  rcases h.2 with ⟨rfl, h0⟩ | ⟨g, cap, cur, rfl, hbg, hg, h1, h2, h3, h4⟩
  · have hz : zs = [] := List.length_eq_zero_iff.1 h0
    subst hz
    refine (Try.slices_Compact_int_empty none 0 w).mono ?_
    rintro e w' ⟨rfl, rfl⟩
    exact ⟨⟨none, 0, by simp [Lib.compact, Lib.compactUpTo]⟩, Below.refl _ _⟩
  · rw [Nat.mul_one] at h4
    refine (Try.slices_Compact_int g 0 cap zs w (holds_block hg h4) (by omega) h1).mono ?_
    rintro e w' ⟨rfl, k, rfl⟩
    exact ⟨⟨_, _, rfl⟩, (Below.refl _ _).grown (grownBy_put _) (by have := (Array.getElem?_eq_some_iff.1 hg).1; omega) (fun k hk => by
      simp at hk
      omega)⟩
theorem cpt_len (zs : List Int) : ∀ k, k ≤ zs.length → (1 ≤ (Lib.compactUpTo zs.toArray (k + 1)).length ∧ ((Lib.compactUpTo zs.toArray (k + 1)).length ≤ 1 ↔ ∀ j, j < k → zs.toArray[j + 1]! = zs.toArray[j]!))
  | 0, _ => by simp [Lib.compactUpTo, Lib.keeps]
  | k + 1, h => by
    obtain ⟨h1, h2⟩ := cpt_len zs k (by omega)
    rw [Lib.compactUpTo_succ, List.length_append]
    by_cases g : zs.toArray[k + 1]! = zs.toArray[k]!
    · have : Lib.keeps zs.toArray (k + 1) = false := by unfold Lib.keeps; exact decide_eq_false (by simp [g])
      rw [this]
      refine ⟨by simp; omega, ?_⟩
      simp only [Bool.false_eq_true, if_false, List.length_nil, Nat.add_zero]
      rw [h2]
      refine ⟨fun a j hj => ?_, fun a j hj => a j (by omega)⟩
      by_cases e : j = k
      · rw [e]; exact g
      · exact a j (by omega)
    · have : Lib.keeps zs.toArray (k + 1) = true := by unfold Lib.keeps; exact decide_eq_true (.inr g)
      rw [this]
      refine ⟨by simp, ?_⟩
      simp only [if_true, List.length_cons, List.length_nil]
      refine ⟨fun a => by omega, fun a => absurd (a k (by omega)) g⟩
theorem far_zero (x : Int) : ∀ l : List Int, far x l = 0 ↔ ∀ y ∈ l, y = x
  | [] => by simp [far]
  | y :: l => by
    have ih := far_zero x l
    have hn := far_nn x l
    have h : 0 ≤ (x - y) * (x - y) := by
      rcases Int.le_total 0 (x - y) with h | h
      · exact Int.mul_nonneg h h
      · exact Int.mul_nonneg_of_nonpos_of_nonpos h h
    simp only [far, List.forall_mem_cons]
    constructor
    · intro e
      have e1 : (x - y) * (x - y) = 0 := by omega
      have e2 : x - y = 0 := by rcases Int.mul_eq_zero.1 e1 with h | h <;> exact h
      exact ⟨by omega, ih.1 (by omega)⟩
    · rintro ⟨e1, e2⟩
      rw [ih.2 e2, e1, Int.sub_self]; rfl
theorem spr_zero : ∀ l : List Int, spr l = 0 ↔ ∀ y ∈ l, y = l.getD 0 0
  | [] => by simp [spr]
  | x :: l => by
    have ih := spr_zero l
    have hn := spr_nn l
    have hf := far_nn x l
    have hz := far_zero x l
    simp only [spr]
    constructor
    · intro e y hy
      rcases List.mem_cons.1 hy with rfl | hy
      · rfl
      · exact hz.1 (by omega) y hy
    · intro a
      have e1 : far x l = 0 := hz.2 fun y hy => by have := a y (List.mem_cons_of_mem _ hy); simpa using this
      have e2 : spr l = 0 := ih.2 fun y hy => by
        have h1 := a y (List.mem_cons_of_mem _ hy)
        cases l with
        | nil => cases hy
        | cons z l =>
          have h2 := a z (List.mem_cons_of_mem _ List.mem_cons_self)
          simp only [List.getD_cons_zero] at h1 h2 ⊢
          omega
      omega
/-- All the same just where no more than one is left of them. -/
theorem cpt_law (zs : List Int) : spr zs = 0 ↔ (Lib.compact zs).length ≤ 1 := by
  rw [spr_zero]
  cases hz : zs with
  | nil => simp [Lib.compact, Lib.compactUpTo]
  | cons x l =>
    rw [← hz]
    have hl : zs.length = l.length + 1 := by rw [hz]; rfl
    have h := (cpt_len zs l.length (by omega)).2
    rw [← hl] at h
    unfold Lib.compact
    rw [h]
    have hget : ∀ j, j < zs.length → zs.toArray[j]! = zs.getD j 0 := fun j hj => by
      simp [List.getD_eq_getElem?_getD, hj, getElem!_pos]
    constructor
    · intro a j hj
      rw [hget _ (by omega), hget _ (by omega), a _ (getD_memI zs (j + 1) (by omega)), a _ (getD_memI zs j (by omega))]
    · intro a y hy
      have key : ∀ j, j < zs.length → zs.getD j 0 = zs.getD 0 0 := fun j => by
        induction j with
        | zero => intro _; rfl
        | succ j ih =>
          intro hj
          have := a j (by omega)
          rw [hget _ hj, hget _ (by omega)] at this
          rw [this]; exact ih (by omega)
      obtain ⟨j, hj, e⟩ := List.getElem_of_mem hy
      have := key j hj
      rw [List.getD_eq_getElem?_getD, List.getElem?_eq_getElem hj] at this
      simp only [Option.getD_some] at this
      rw [← e, this]
/-! One by one. -/
theorem far_app (x : Int) : ∀ l m : List Int, far x (l ++ m) = far x l + far x m
  | [], m => by simp [far]
  | y :: l, m => by simp only [List.cons_append, far, far_app x l m]; omega
theorem spr_snoc (x : Int) : ∀ l : List Int, spr (l ++ [x]) = spr l + far x l
  | [] => by simp [spr, far]
  | y :: l => by
    simp only [List.cons_append, spr, spr_snoc x l, far_app, far]
    have : (y - x) * (y - x) = (x - y) * (x - y) := by grind
    omega
theorem spr_take (l : List Int) (k : Nat) (h : k < l.length) : spr (l.take (k + 1)) = spr (l.take k) + far (l.getD k 0) (l.take k) := by
  rw [take_s l k h, spr_snoc]
theorem far_take (x : Int) (l : List Int) (k : Nat) (h : k < l.length) : far x (l.take (k + 1)) = far x (l.take k) + (x - l.getD k 0) * (x - l.getD k 0) := by
  rw [take_s l k h, far_app]; simp [far]
theorem dif_bd {x y : Int} (hx : -1048576 ≤ x ∧ x ≤ 1048576) (hy : -1048576 ≤ y ∧ y ≤ 1048576) : 0 ≤ (x - y) * (x - y) ∧ (x - y) * (x - y) ≤ 4398046511104 := by
  have h1 : 0 ≤ (2097152 - (x - y)) * (2097152 + (x - y)) := Int.mul_nonneg (by omega) (by omega)
  have h2 : (2097152 - (x - y)) * (2097152 + (x - y)) = 4398046511104 - (x - y) * (x - y) := by grind
  exact ⟨by rcases Int.le_total 0 (x - y) with h | h; exact Int.mul_nonneg h h; exact Int.mul_nonneg_of_nonpos_of_nonpos h h, by omega⟩
theorem far_bd {x : Int} (hx : -1048576 ≤ x ∧ x ≤ 1048576) : ∀ {l : List Int}, Sml l → 0 ≤ far x l ∧ far x l ≤ l.length * 4398046511104
  | [], _ => by simp [far]
  | y :: l, h => by
    have h1 := dif_bd hx (h y List.mem_cons_self)
    have ih := far_bd hx (l := l) fun z hz => h z (List.mem_cons_of_mem _ hz)
    simp only [far, List.length_cons]
    omega
theorem spr_bd2 : ∀ {l : List Int}, Sml l → l.length ≤ 400 → 0 ≤ spr l ∧ spr l ≤ l.length * 1759218604441600
  | [], _, _ => by simp [spr]
  | y :: l, h, hl => by
    have hl' : l.length ≤ 400 := by simp at hl; omega
    have hs : Sml l := fun z hz => h z (List.mem_cons_of_mem _ hz)
    have h1 := far_bd (h y List.mem_cons_self) hs
    have ih := spr_bd2 hs hl'
    simp only [spr, List.length_cons]
    omega
end Go.Proofs.Ytdlnjalkbgkhdaa
