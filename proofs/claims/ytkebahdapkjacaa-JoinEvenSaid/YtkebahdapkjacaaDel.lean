/- slices.Delete of one of a list of one's own; slices.Index. No condition. -/
import Derived.Test.YtkebahdapkjacaaRight
import Derived.Test.YtkebahdapkjacaaClone
import Derived.Test.YtkebahdapkjacaaShelf
import Derived.Test.YtkebahdapkjacaaIndex
import Derived.Laws.OwnMore
set_option linter.unusedSimpArgs false
set_option linter.unusedVariables false
namespace Go.Proofs.Ytkebahdapkjacaa
open Go.RowKit
theorem Rd.slice {w : World} {v : Value} {zs : List Int} (h : Rd w v zs) : ∃ a k, v = .slice a zs.length k ∧ zs.length ≤ k ∧ k ≤ maxLen := by
  obtain ⟨a, cap, rfl, h1, h2, -⟩ := h
  exact ⟨_, _, rfl, h1, h2⟩
theorem Rd.at {w : World} {a : Option Addr} {n c : Nat} {zs : List Int} (h : Rd w (.slice a n c) zs) {i : Nat} (hi : i < n) : ∃ b off, a = some ⟨b, off, none⟩ ∧ b < w.heap.size ∧ w.cell? ⟨b, off + i, none⟩ = some (.int .i64 (zs.getD i 0)) := by
  obtain ⟨a', cap, he, -, -, hop⟩ := h.open
  cases he
  obtain ⟨b, off, h1, h2, h3⟩ := hop i hi
  exact ⟨b, off, h1, h2, h3 i hi⟩
theorem undrew {B : Nat} {w w' : World} (h : Below B w.drew w') : Below B w w' := ⟨h.os, h.tape, h.output, h.size, h.block⟩
theorem count_erase : ∀ (zs : List Int) (i : Nat) (h : i < zs.length) (y : Int), zs.count y = (zs.eraseIdx i).count y + [zs.getD i 0].count y
  | z :: zs, 0, _, y => by
    rw [List.eraseIdx_cons_zero, List.count_cons, List.count_singleton]; rfl
  | z :: zs, i + 1, h, y => by
    have := count_erase zs i (by simpa using h) y
    rw [List.eraseIdx_cons_succ, List.count_cons, List.count_cons, List.getD_cons_succ]
    omega
/-- The rest to be found is in what is left. -/
def Fits (H L : List Int) : Prop := ∀ y, H.count y ≤ L.count y
theorem Fits.mem {H L : List Int} (h : Fits H L) {x : Int} (hx : x ∈ H) : x ∈ L := by
  have h1 := h x
  have h2 := List.count_pos_iff.2 hx
  exact List.count_pos_iff.1 (by omega)
theorem Fits.step {H L : List Int} {i k : Nat} (h : Fits (H.drop i) L) (hi : i < H.length) (hk : k < L.length) (he : L.getD k 0 = H.getD i 0) : Fits (H.drop (i + 1)) (L.eraseIdx k) := fun y => by
  have h1 := h y
  rw [List.drop_eq_getElem_cons hi, List.count_cons] at h1
  have h2 := count_erase L k hk y
  rw [he, List.count_singleton, List.getD_eq_getElem?_getD, List.getElem?_eq_getElem hi] at h2
  simp only [Option.getD_some] at h2
  omega
theorem erase_eq (zs : List Int) (k : Nat) : zs.eraseIdx k = zs.take k ++ zs.drop (k + 1) := List.eraseIdx_eq_take_drop_succ ..
theorem own_cells {base g n cap : Nat} {e : TypeId} : ∀ (ys xs : List Value) (o : Nat) (w : World), w.ownsRow base e 1 (.slice (some ⟨g, 0, none⟩) n cap) n xs → o + ys.length ≤ n →
    (w.setCells g o ys).ownsRow base e 1 (.slice (some ⟨g, 0, none⟩) n cap) n (xs.take o ++ ys ++ xs.drop (o + ys.length))
  | [], xs, o, w, h, _ => by simpa [World.setCells] using h
  | y :: ys, xs, o, w, h, hl => by
    have hx : xs.length = n := by have := h.1; simpa using this
    have h1 := (h.stored o y).1
    have h2 := own_cells ys _ (o + 1) _ h1 (by simp at hl; omega)
    simp only [World.setCells]
    simp at hl
    have e1 : (xs.set o y).take (o + 1) = xs.take o ++ [y] := by
      rw [List.take_add_one, List.take_set_of_le (Nat.le_refl _), List.getElem?_set_self (by omega)]; rfl
    have e2 : (xs.set o y).drop (o + 1 + ys.length) = xs.drop (o + (y :: ys).length) := by
      rw [List.drop_set_of_lt (by omega)]; congr 1; simp; omega
    rw [e1, e2] at h2
    simpa using h2
theorem own_cut {w : World} {base g n cap : Nat} {e : TypeId} {xs : List Value} (h : w.ownsRow base e 1 (.slice (some ⟨g, 0, none⟩) n cap) n xs) {m : Nat} (hm : m ≤ n) : w.ownsRow base e 1 (.slice (some ⟨g, 0, none⟩) m cap) m (xs.take m) := by
  have hx : xs.length = n := by have := h.1; simpa using this
  refine ⟨by simp [hx]; omega, ?_⟩
  rcases h.2 with ⟨h', _⟩ | ⟨g', cap', cur, h', hb, hg, hnc, hcm, hcs, htake⟩
  · simp at h'
  · simp only [Value.slice.injEq, Option.some.injEq, Addr.mk.injEq, and_true, true_and] at h'
    obtain ⟨rfl, rfl⟩ := h'
    refine .inr ⟨g, cap, cur, rfl, hb, hg, by omega, hcm, hcs, ?_⟩
    rw [← htake, List.take_take]
    congr 1
    omega
theorem below_cells {B g : Nat} (hB : B ≤ g) : ∀ (ys : List Value) (o : Nat) (w0 w : World), Below B w0 w → Below B w0 (w.setCells g o ys)
  | [], o, w0, w, h => h
  | y :: ys, o, w0, w, h => below_cells hB ys (o + 1) w0 _ (h.setCell hB _)
theorem grown_cells {g : Nat} : ∀ (ys : List Value) (o : Nat) (w0 w : World), w0.grownBy w (some g) → w0.grownBy (w.setCells g o ys) (some g)
  | [], o, w0, w, h => h
  | y :: ys, o, w0, w, h => grown_cells ys (o + 1) w0 _ ⟨h.os, h.tape, h.output, by rw [show (w.setCell ⟨g, o, none⟩ y).heap.size = w.heap.size by simp [World.setCell]]; exact h.size, fun i hi hr => (Below.heap_setCell w _ y i (by simpa using hr)).trans (h.block i hi hr)⟩
theorem del_own {base g n cap : Nat} {zs : List Int} {w : World} (h : w.ownsRow base 3 1 (.slice (some ⟨g, 0, none⟩) n cap) n (zs.map (Value.int .i64))) (k : Nat) (hk : k < n) (j : Int) (hj : j = (k : Int) + 1) :
    Calls Try.prog 14 #[.slice (some ⟨g, 0, none⟩) n cap, .int .i64 k, .int .i64 j] w fun e w' => e = .returned (.slice (some ⟨g, 0, none⟩) (n - 1) cap) ∧ w'.ownsRow base 3 1 (.slice (some ⟨g, 0, none⟩) (n - 1) cap) (n - 1) ((zs.eraseIdx k).map (Value.int .i64)) ∧ w.grownBy w' (some g) := by
  subst hj
  have hx : zs.length = n := by have := h.1; simpa using this
  obtain ⟨g', cap', hv, h1, h2, h3, h4, h5⟩ := own_open h (by omega)
  cases hv
  have hfr := World.ownsRow.frozenAt h
  refine (Try.slices_Delete_int_cells g 0 n cap k (k + 1) zs w (by omega) h1 (by unfold maxLen at h2; exact h2) (by omega) (by omega) (fun j hj => ?_) (fun j hj => ?_)).mono ?_
  · rw [Nat.zero_add]; exact own_get h j (by omega)
  · rw [Nat.zero_add]; exact hfr j
  · rintro e w' ⟨rfl, q, rfl⟩
    have e1 : n - (k + 1 - k) = n - 1 := by omega
    rw [e1]
    have hd : (w.drewN q).ownsRow base 3 1 (.slice (some ⟨g, 0, none⟩) n cap) n (zs.map (Value.int .i64)) := h
    have ez : zs.take n = zs := List.take_of_length_le (by omega)
    rw [ez]
    have hl : (zs.take k ++ zs.drop (k + 1) ++ List.replicate (k + 1 - k) 0).length = n := by
      simp only [List.length_append, List.length_take, List.length_drop, List.length_replicate]; omega
    have ho := own_cells ((zs.take k ++ zs.drop (k + 1) ++ List.replicate (k + 1 - k) 0).map (Value.int .i64)) _ 0 _ hd (by rw [List.length_map]; omega)
    have ed : (zs.map (Value.int .i64)).drop n = [] := List.drop_of_length_le (by rw [List.length_map]; omega)
    rw [List.take_zero, List.nil_append, List.length_map, hl, Nat.zero_add, ed, List.append_nil] at ho
    have hc := own_cut ho (show n - 1 ≤ n by omega)
    have e2 : (((zs.take k ++ zs.drop (k + 1) ++ List.replicate (k + 1 - k) 0).map (Value.int .i64)).take (n - 1)) = (zs.eraseIdx k).map (Value.int .i64) := by
      rw [← List.map_take, erase_eq, List.take_append_of_le_length (by simp only [List.length_append, List.length_take, List.length_drop]; omega), List.take_of_length_le (by simp only [List.length_append, List.length_take, List.length_drop]; omega)]
    rw [e2] at hc
    exact ⟨rfl, hc, grown_cells _ _ _ _ ⟨rfl, rfl, rfl, Nat.le_refl _, fun _ _ _ => rfl⟩⟩
theorem index_any (a : Option Addr) (n c : Nat) (zs : List Int) (x : Int) (w : World) (h : Rd w (.slice a n c) zs) : Calls Try.prog 13 #[.slice a n c, .int .i64 x] w fun e w' => e = .returned (.int .i64 (Lib.idxOf zs x)) ∧ w' = w := by
  obtain ⟨a', k, he, h1, h2⟩ := h.slice
  cases he
  unfold maxLen at h2
  by_cases h0 : 0 < zs.length
  · obtain ⟨a', cap, he, -, -, hop⟩ := h.open
    cases he
    obtain ⟨b, off, rfl, hb, hc⟩ := hop 0 h0
    have := Try.slices_Index_int b off zs.length c zs x w (Nat.le_refl _) (by omega) hc
    rwa [List.take_of_length_le (Nat.le_refl _)] at this
  · have hz : zs = [] := List.length_eq_zero_iff.1 (by omega)
    subst hz
    exact Try.slices_Index_int_empty a c x w
theorem index_in {zs : List Int} {x : Int} (h : x ∈ zs) : ∃ k : Nat, Lib.idxOf zs x = k ∧ k < zs.length ∧ zs.getD k 0 = x := by
  have h1 : (0 : Int) ≤ Lib.idxOf zs x := by rw [Lib.idxOf_nonneg_iff]; simpa using h
  suffices key : ∀ (zs : List Int) (i : Nat), x ∈ zs → ∃ k : Nat, Lib.idxFrom zs x i = ((i + k : Nat) : Int) ∧ k < zs.length ∧ zs.getD k 0 = x by
    obtain ⟨k, h1, h2, h3⟩ := key zs 0 h
    exact ⟨k, by simpa [Lib.idxOf] using h1, h2, h3⟩
  intro zs
  induction zs with
  | nil => intro i h; cases h
  | cons z zs ih =>
    intro i h
    by_cases hz : z = x
    · exact ⟨0, by simp [Lib.idxFrom, hz], by simp, by simpa using hz⟩
    · rcases List.mem_cons.1 h with h | h
      · exact absurd h.symm hz
      · obtain ⟨k, h1, h2, h3⟩ := ih (i + 1) h
        refine ⟨k + 1, ?_, by simpa using h2, by simpa using h3⟩
        simp only [Lib.idxFrom, if_neg hz, h1]
        congr 1; omega
end Go.Proofs.Ytkebahdapkjacaa
