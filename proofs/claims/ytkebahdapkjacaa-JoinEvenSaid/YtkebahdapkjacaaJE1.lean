/- JoinEven's two loops: small laws. No condition. -/
import Derived.Test.YtkebahdapkjacaaDraws
import Derived.Test.YtkebahdapkjacaaEOf
set_option linter.unusedSimpArgs false
set_option linter.unusedVariables false
namespace Go.Proofs.Ytkebahdapkjacaa
open Go.RowKit Go.Maps
/-- Rows of the call's own stay readable while nothing but an older block turns. -/
theorem OM.stays {w : World} {base mb : Nat} {mv : Value} {zss : List (List Int)} (h : OM w base mv zss) (hmb : mb < base) :
    ∃ a c, mv = .slice a zss.length c ∧ zss.length ≤ c ∧ c ≤ maxLen ∧ ∀ wr, w.grownBy wr (some mb) → 0 < zss.length → ∃ (b off : Nat) (U : Nat → Value), a = some ⟨b, off, none⟩ ∧ ∀ i, i < zss.length → wr.cell? ⟨b, off + i, none⟩ = some (U i) ∧ Rd wr (U i) (zss.getD i []) := by
  obtain ⟨V, h1, h2, h3⟩ := h
  by_cases h0 : 0 < zss.length
  · obtain ⟨g, cap, rfl, h4, h5, h6, h7, h8⟩ := own_open h1 h0
    refine ⟨_, cap, rfl, h4, h5, fun wr hg _ => ⟨g, 0, V, rfl, fun i hi => ⟨?_, ?_⟩⟩⟩
    · rw [Nat.zero_add]
      exact (World.cell?_of_block (w := w) (hg.block g h7 (by simp; omega))).trans (h8 i _ (by simp [hi]))
    · exact ((h3 i hi).kept hg.size fun g' hg1 hg2 _ => hg.block g' hg1 (by simp; omega)).rd
  · have hz : zss = [] := List.length_eq_zero_iff.1 (by omega)
    subst hz
    rw [h2 rfl]
    exact ⟨none, 0, rfl, Nat.le_refl _, Nat.zero_le _, fun wr hg h => absurd h (by decide)⟩
theorem AJx_succ (room n m : Nat) (xs ys : List (List Int)) (k : Nat) : AJx room n m xs ys (k + 1) = AJy (AJx room n m xs ys k) room n m (xs.getD k []) ys ys.length := rfl
theorem AJy_succ (L : List (Nat × Nat)) (room n m : Nat) (x : List Int) (ys : List (List Int)) (k : Nat) : AJy L room n m x ys (k + 1) = AJi (AJy L room n m x ys k) room n m x (shiftJ n (ys.getD k [])) (prodN (basesJ (n + m) room)) := rfl
theorem many_le {room n m : Nat} {x y : List Int} (hf : fineXY room n m x y = true) (j : Nat) (hj : j < prodN (basesJ (n + m) room)) : manyJ room n m x y j ≤ 25 := by
  unfold fineXY at hf
  rw [List.all_eq_true] at hf
  have := hf j (List.mem_range.2 hj)
  unfold fineI at this
  simp only [Bool.and_eq_true, decide_eq_true_eq] at this
  exact this.1.1.2
theorem lk_AJy (L : List (Nat × Nat)) (room n m : Nat) (x : List Int) (ys : List (List Int)) (z : Int) (B : Nat) (h : lk L z ≤ B) (hp : prodN (basesJ (n + m) room) ≤ 20) : ∀ k, (∀ j, j < k → fineXY room n m x (shiftJ n (ys.getD j [])) = true) → lk (AJy L room n m x ys k) z ≤ B + k * 360360000
  | 0, _ => by simpa [AJy] using h
  | k + 1, hf => by
    have h1 := lk_AJy L room n m x ys z B h hp k (fun j hj => hf j (by omega))
    have h2 := lk_AJi (AJy L room n m x ys k) room n m x (shiftJ n (ys.getD k [])) z _ 720720 h1 (fun i => Nat.div_le_self _ _) _ (fun j hj => many_le (hf k (Nat.lt_succ_self k)) j hj)
    rw [AJy_succ, Nat.add_mul, Nat.one_mul]
    have h3 : prodN (basesJ (n + m) room) * (25 * 720720) ≤ 20 * (25 * 720720) := Nat.mul_le_mul_right _ hp
    omega
theorem lk_AJx (room n m : Nat) (xs ys : List (List Int)) (z : Int) (hp : prodN (basesJ (n + m) room) ≤ 20) (hy : ys.length ≤ 32) : ∀ k, (∀ i, i < k → ∀ j, j < ys.length → fineXY room n m (xs.getD i []) (shiftJ n (ys.getD j [])) = true) → lk (AJx room n m xs ys k) z ≤ k * 11531520000
  | 0, _ => by simp [AJx, lk]
  | k + 1, hf => by
    have h1 := lk_AJx room n m xs ys z hp hy k (fun i hi => hf i (by omega))
    have h2 := lk_AJy (AJx room n m xs ys k) room n m (xs.getD k []) ys z _ h1 hp ys.length (hf k (Nat.lt_succ_self k))
    rw [AJx_succ, Nat.add_mul, Nat.one_mul]
    have h3 : ys.length * 360360000 ≤ 32 * 360360000 := Nat.mul_le_mul_right _ hy
    omega
theorem fine_at {room n m : Nat} (h : fine room n m = true) (i j : Nat) (hi : i < (ea n (min room n)).length) (hj : j < (ea m (min room m)).length) : fineXY room n m ((ea n (min room n)).getD i []) (shiftJ n ((ea m (min room m)).getD j [])) = true := by
  unfold fine at h
  rw [List.all_eq_true] at h
  have h1 := h ((ea n (min room n)).getD i []) (by rw [List.getD_eq_getElem?_getD, List.getElem?_eq_getElem hi]; exact List.getElem_mem _)
  rw [List.all_eq_true] at h1
  exact h1 _ (by rw [List.getD_eq_getElem?_getD, List.getElem?_eq_getElem hj]; exact List.getElem_mem _)
theorem ea_bd : ∀ n k, ∀ r ∈ ea n k, ∀ x ∈ r, (0 : Int) ≤ x ∧ x < n
  | n, 0, r, h, x, hx => by rw [ea_zero] at h; simp at h; subst h; cases hx
  | 0, k + 1, r, h, x, hx => by cases h
  | n + 1, k + 1, r, h, x, hx => by
    rw [ea_succ, List.mem_append, List.mem_map] at h
    rcases h with h | ⟨q, hq, rfl⟩
    · have := ea_bd n (k + 1) r h x hx; omega
    · rw [List.mem_append, List.mem_singleton] at hx
      rcases hx with hx | rfl
      · have := ea_bd n k q hq x hx; omega
      · omega
theorem shiftJ_take (n : Nat) (y : List Int) (i : Nat) (hi : i < y.length) : shiftJ n (y.take (i + 1)) = shiftJ n (y.take i) ++ [(n : Int) + y.getD i 0] := by
  unfold shiftJ
  rw [List.take_add_one, List.map_append, List.getElem?_eq_getElem hi, List.getD_eq_getElem?_getD, List.getElem?_eq_getElem hi]; rfl
theorem lk_all {P : Nat → Bool} : ∀ (l : List (Nat × Nat)) (x : Int), (l.all fun p => P p.2) = true → hk l x = true → P (lk l x) = true
  | [], x, _, h => by simp [hk] at h
  | p :: r, x, ha, h => by
    simp only [List.all_cons, Bool.and_eq_true] at ha
    simp only [lk]
    by_cases e : (p.1 : Int) = x
    · rw [if_pos e]; exact ha.1
    · rw [if_neg e]
      refine lk_all r x ha.2 ?_
      simpa [hk, e] using h
end Go.Proofs.Ytkebahdapkjacaa
