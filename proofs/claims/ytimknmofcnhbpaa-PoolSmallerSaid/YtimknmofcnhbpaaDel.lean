/- slices.Delete of one of a list of one's own; slices.Index. No condition. -/
import Derived.Test.YtimknmofcnhbpaaAll
import Derived.Test.YtimknmofcnhbpaaShelf
import Derived.Test.YtimknmofcnhbpaaIndex
import Derived.Laws.OwnMore
set_option linter.unusedSimpArgs false
set_option linter.unusedVariables false
namespace Go.Proofs.Ytimknmofcnhbpaa
open Go.RowKit
theorem own_cells {base g n cap : Nat} {e : TypeId} : ∀ (ys xs : List Value) (o : Nat) (w : World), w.ownsRow base e 1 (.slice (some ⟨g, 0, none⟩) n cap) n xs → o + ys.length ≤ n →
    (w.setCells g o ys).ownsRow base e 1 (.slice (some ⟨g, 0, none⟩) n cap) n (xs.take o ++ ys ++ xs.drop (o + ys.length))
  | [], xs, o, w, h, _ => by simpa [World.setCells] using h
  | y :: ys, xs, o, w, h, hl => by
    have hx : xs.length = n := by have := h.1; simpa using this
    have h1 := (h.stored o y).1
    have h2 := own_cells ys _ (o + 1) _ h1 (by simp at hl; omega)
    simp only [World.setCells]
    simp at hl
    have e1 : (xs.set o y).take (o + 1) = xs.take o ++ [y] := by
      rw [List.take_add_one, List.take_set_of_le (Nat.le_refl _), List.getElem?_set_self (by omega)]; rfl
    have e2 : (xs.set o y).drop (o + 1 + ys.length) = xs.drop (o + (y :: ys).length) := by
      rw [List.drop_set_of_lt (by omega)]; congr 1; simp; omega
    rw [e1, e2] at h2
    simpa using h2
theorem own_cut {w : World} {base g n cap : Nat} {e : TypeId} {xs : List Value} (h : w.ownsRow base e 1 (.slice (some ⟨g, 0, none⟩) n cap) n xs) {m : Nat} (hm : m ≤ n) : w.ownsRow base e 1 (.slice (some ⟨g, 0, none⟩) m cap) m (xs.take m) := by
  have hx : xs.length = n := by have := h.1; simpa using this
  refine ⟨by simp [hx]; omega, ?_⟩
  rcases h.2 with ⟨h', _⟩ | ⟨g', cap', cur, h', hb, hg, hnc, hcm, hcs, htake⟩
  · simp at h'
  · simp only [Value.slice.injEq, Option.some.injEq, Addr.mk.injEq, and_true, true_and] at h'
    obtain ⟨rfl, rfl⟩ := h'
    refine .inr ⟨g, cap, cur, rfl, hb, hg, by omega, hcm, hcs, ?_⟩
    rw [← htake, List.take_take]
    congr 1
    omega
theorem below_cells {B g : Nat} (hB : B ≤ g) : ∀ (ys : List Value) (o : Nat) (w0 w : World), Below B w0 w → Below B w0 (w.setCells g o ys)
  | [], o, w0, w, h => h
  | y :: ys, o, w0, w, h => below_cells hB ys (o + 1) w0 _ (h.setCell hB _)
theorem del_own {base g n cap : Nat} {zs : List Int} {w : World} (h : w.ownsRow base 3 1 (.slice (some ⟨g, 0, none⟩) n cap) n (zs.map (Value.int .i64))) (k : Nat) (hk : k < n) (j : Int) (hj : j = (k : Int) + 1) :
    Calls Try.prog 20 #[.slice (some ⟨g, 0, none⟩) n cap, .int .i64 k, .int .i64 j] w fun e w' => e = .returned (.slice (some ⟨g, 0, none⟩) (n - 1) cap) ∧ w'.ownsRow base 3 1 (.slice (some ⟨g, 0, none⟩) (n - 1) cap) (n - 1) ((zs.eraseIdx k).map (Value.int .i64)) ∧ Below base w w' := by
  subst hj
  have hx : zs.length = n := by have := h.1; simpa using this
  obtain ⟨g', cap', hv, h1, h2, h3, h4, h5⟩ := own_open h (by omega)
  cases hv
  have hfr := World.ownsRow.frozenAt h
  refine (Try.slices_Delete_int_cells g 0 n cap k (k + 1) zs w (by omega) h1 (by unfold maxLen at h2; exact h2) (by omega) (by omega) (fun j hj => ?_) (fun j hj => ?_)).mono ?_
  · rw [Nat.zero_add]; exact own_get h j (by omega)
  · rw [Nat.zero_add]; exact hfr j
  · rintro e w' ⟨rfl, q, rfl⟩
    have e1 : n - (k + 1 - k) = n - 1 := by omega
    rw [e1]
    have hd : (w.drewN q).ownsRow base 3 1 (.slice (some ⟨g, 0, none⟩) n cap) n (zs.map (Value.int .i64)) := h
    have ez : zs.take n = zs := List.take_of_length_le (by omega)
    rw [ez]
    have hl : (zs.take k ++ zs.drop (k + 1) ++ List.replicate (k + 1 - k) 0).length = n := by
      simp only [List.length_append, List.length_take, List.length_drop, List.length_replicate]; omega
    have ho := own_cells ((zs.take k ++ zs.drop (k + 1) ++ List.replicate (k + 1 - k) 0).map (Value.int .i64)) _ 0 _ hd (by rw [List.length_map]; omega)
    have ed : (zs.map (Value.int .i64)).drop n = [] := List.drop_of_length_le (by rw [List.length_map]; omega)
    rw [List.take_zero, List.nil_append, List.length_map, hl, Nat.zero_add, ed, List.append_nil] at ho
    have hc := own_cut ho (show n - 1 ≤ n by omega)
    have e2 : (((zs.take k ++ zs.drop (k + 1) ++ List.replicate (k + 1 - k) 0).map (Value.int .i64)).take (n - 1)) = (zs.eraseIdx k).map (Value.int .i64) := by
      rw [← List.map_take, erase_eq, List.take_append_of_le_length (by simp only [List.length_append, List.length_take, List.length_drop]; omega), List.take_of_length_le (by simp only [List.length_append, List.length_take, List.length_drop]; omega)]
    rw [e2] at hc
    exact ⟨rfl, hc, below_cells h3 _ _ _ _ ((Below.refl _ _).drewN q)⟩
theorem index_any (a : Option Addr) (n c : Nat) (zs : List Int) (x : Int) (w : World) (h : Rd w (.slice a n c) zs) : Calls Try.prog 19 #[.slice a n c, .int .i64 x] w fun e w' => e = .returned (.int .i64 (Lib.idxOf zs x)) ∧ w' = w := by
  obtain ⟨a', k, he, h1, h2⟩ := h.slice
  cases he
  unfold maxLen at h2
  by_cases h0 : 0 < zs.length
  · obtain ⟨a', cap, he, -, -, hop⟩ := h.open
    cases he
    obtain ⟨b, off, rfl, hb, hc⟩ := hop 0 h0
    have := Try.slices_Index_int b off zs.length c zs x w (Nat.le_refl _) (by omega) hc
    rwa [List.take_of_length_le (Nat.le_refl _)] at this
  · have hz : zs = [] := List.length_eq_zero_iff.1 (by omega)
    subst hz
    exact Try.slices_Index_int_empty a c x w
theorem index_in {zs : List Int} {x : Int} (h : x ∈ zs) : ∃ k : Nat, Lib.idxOf zs x = k ∧ k < zs.length ∧ zs.getD k 0 = x := by
  have h1 : (0 : Int) ≤ Lib.idxOf zs x := by rw [Lib.idxOf_nonneg_iff]; simpa using h
  suffices key : ∀ (zs : List Int) (i : Nat), x ∈ zs → ∃ k : Nat, Lib.idxFrom zs x i = ((i + k : Nat) : Int) ∧ k < zs.length ∧ zs.getD k 0 = x by
    obtain ⟨k, h1, h2, h3⟩ := key zs 0 h
    exact ⟨k, by simpa [Lib.idxOf] using h1, h2, h3⟩
  intro zs
  induction zs with
  | nil => intro i h; cases h
  | cons z zs ih =>
    intro i h
    by_cases hz : z = x
    · exact ⟨0, by simp [Lib.idxFrom, hz], by simp, by simpa using hz⟩
    · rcases List.mem_cons.1 h with h | h
      · exact absurd h.symm hz
      · obtain ⟨k, h1, h2, h3⟩ := ih (i + 1) h
        refine ⟨k + 1, ?_, by simpa using h2, by simpa using h3⟩
        simp only [Lib.idxFrom, if_neg hz, h1]
        congr 1; omega
end Go.Proofs.Ytimknmofcnhbpaa
