/- The fellows of pdqsortOrdered[uint64], each as one reads it ahead of a call: it permutes within its range. -/
import Derived.Test.YticodfdonpookaaSuPart
import Derived.Test.YticodfdonpookaaSuPartial
import Derived.Test.YticodfdonpookaaSuBrk
import Derived.Test.YticodfdonpookaaSuChoose
set_option linter.unusedSimpArgs false
set_option linter.unusedVariables false
set_option maxRecDepth 20000
namespace Go.Proofs.Yticodfdonpookaa.Su
open Go.RowKit Go.Sort
/-- The row, as it lies in all worlds of a call. -/
def RW (w : World) (blk off L : Nat) : Prop := ∃ d0 : Array Int, Holds eu w blk off d0 ∧ d0.size = L ∧ blk < w.heap.size ∧ L < 4611686018427387904
/-- A later world in which the row holds d. -/
def SL (w w' : World) (blk off L : Nat) (d : Array Int) : Prop := SU w w' blk off d ∧ d.size = L
theorem SL.at {w W : World} {blk off L : Nat} {d : Array Int} (hR : RW w blk off L) (h : SL w W blk off L d) : Holds eu W blk off d ∧ blk < W.heap.size ∧ d.size = L ∧ L < 4611686018427387904 := by
  obtain ⟨d0, h0, h1, h2, h3⟩ := hR
  exact ⟨h.1.holds h0 (by rw [h.2, h1]) h2, Nat.lt_of_lt_of_le h2 h.1.size, h.2, h3⟩
theorem SL.then {w W W' : World} {blk off L : Nat} {d R : Array Int} (hR : RW w blk off L) (h : SL w W blk off L d) (h' : SU W W' blk off R) (hs : R.size = d.size) : SL w W' blk off L R := by
  obtain ⟨d0, h0, h1, h2, h3⟩ := hR
  exact ⟨h.1.trans h' hs h2, by rw [hs, h.2]⟩
theorem c50 {w : World} {blk off L : Nat} (cap a b : Nat) (d : Array Int) (W : World) (hR : RW w blk off L) (h : SL w W blk off L d) (hab : a ≤ b) (hb : b ≤ L) :
    Calls Try.prog 50 #[.slice (some ⟨blk, off, none⟩) L cap, .int .i64 (a : Int), .int .i64 (b : Int)] W fun e w' => e = .returned (.tuple #[]) ∧ ∃ R, SL w w' blk off L R ∧ PermIn a b d R ∧ SortedIn ltInt a b R := by
  obtain ⟨h1, h2, h3, h4⟩ := h.at hR
  obtain ⟨p1, p2⟩ := insertionSort_holds swo_ltInt d a b hab (by omega)
  exact (ins_any blk off cap d L a b W h1 h2 h3 hb h4 (by omega)).mono fun e w' ⟨he, hs⟩ => ⟨he, _, h.then hR hs p1.1, p1, p2⟩
theorem c51 {w : World} {blk off L : Nat} (cap a b : Nat) (d : Array Int) (W : World) (hR : RW w blk off L) (h : SL w W blk off L d) (hab : a < b) (hb : b ≤ L) :
    Calls Try.prog 51 #[.slice (some ⟨blk, off, none⟩) L cap, .int .i64 (a : Int), .int .i64 (b : Int)] W fun e w' => e = .returned (.tuple #[]) ∧ ∃ R, SL w w' blk off L R ∧ PermIn a b d R ∧ SortedIn ltInt a b R := by
  obtain ⟨h1, h2, h3, h4⟩ := h.at hR
  obtain ⟨p1, p2⟩ := heapSort_holds swo_ltInt d a b (by omega) (by omega)
  exact (heap_any blk off cap d L a b W h1 h2 h3 hb hab h4).mono fun e w' ⟨he, hs⟩ => ⟨he, _, h.then hR hs p1.1, p1, p2⟩
theorem c52 {w : World} {blk off L : Nat} (cap a b : Nat) (d : Array Int) (W : World) (hR : RW w blk off L) (h : SL w W blk off L d) (hab : a + 12 < b) (hb : b ≤ L) :
    Calls Try.prog 52 #[.slice (some ⟨blk, off, none⟩) L cap, .int .i64 (a : Int), .int .i64 (b : Int)] W fun e w' => e = .returned (.tuple #[]) ∧ ∃ R, SL w w' blk off L R ∧ PermIn a b d R := by
  obtain ⟨h1, h2, h3, h4⟩ := h.at hR
  exact (brk_any blk off cap d L a b W h1 h2 h3 hb hab h4).mono fun e w' ⟨he, R, hs, hp⟩ => ⟨he, R, h.then hR hs hp.1, hp⟩
theorem c53 {w : World} {blk off L : Nat} (cap a b : Nat) (d : Array Int) (W : World) (hR : RW w blk off L) (h : SL w W blk off L d) (hab : a + 12 < b) (hb : b ≤ L) :
    Calls Try.prog 53 #[.slice (some ⟨blk, off, none⟩) L cap, .int .i64 (a : Int), .int .i64 (b : Int)] W fun e w' => (∃ (p : Nat) (g : Int), e = .returned (.tuple #[.int .i64 (p : Int), .int .i64 g]) ∧ a ≤ p ∧ p < b ∧ (g = 2 ∨ g = 1 ∨ g = 0)) ∧ SL w w' blk off L d := by
  obtain ⟨h1, h2, h3, h4⟩ := h.at hR
  have hp := choosePivot_holds ltInt d a b (by omega)
  refine (choose_any blk off cap d L a b W h1 h2 h3 hb hab h4).mono fun e w' ⟨he, n, os, hs⟩ => ⟨⟨_, _, he, hp.1, hp.2, ?_⟩, h.then hR ⟨n, os, ?_⟩ rfl⟩
  · cases (choosePivot ltInt d a b).2 with
    | unknown => exact Or.inr (Or.inr rfl)
    | increasing => exact Or.inr (Or.inl rfl)
    | decreasing => exact Or.inl rfl
  · rw [hs, putRow_ahead, putRow_self _ _ _ _ _ h1]
theorem c54 {w : World} {blk off L : Nat} (cap a b : Nat) (d : Array Int) (W : World) (hR : RW w blk off L) (h : SL w W blk off L d) (hab : a < b) (hb : b ≤ L) :
    Calls Try.prog 54 #[.slice (some ⟨blk, off, none⟩) L cap, .int .i64 (a : Int), .int .i64 (b : Int)] W fun e w' => e = .returned (.tuple #[]) ∧ ∃ R, SL w w' blk off L R ∧ PermIn a b d R := by
  obtain ⟨h1, h2, h3, h4⟩ := h.at hR
  have p1 := reverseRange_holds d a b (by omega) (by omega)
  exact (rev_any blk off cap d L a b W h1 h2 h3 hb (by omega) h4 (by omega)).mono fun e w' ⟨he, hs⟩ => ⟨he, _, h.then hR hs p1.1, p1⟩
theorem c55 {w : World} {blk off L : Nat} (cap a b : Nat) (d : Array Int) (W : World) (hR : RW w blk off L) (h : SL w W blk off L d) (hab : a < b) (hb : b ≤ L) (hB : Sort.Below ltInt a b d) :
    Calls Try.prog 55 #[.slice (some ⟨blk, off, none⟩) L cap, .int .i64 (a : Int), .int .i64 (b : Int)] W fun e w' => ∃ (c : Bool) (R : Array Int), e = .returned (.bool c) ∧ SL w w' blk off L R ∧ PermIn a b d R ∧ (c = true → SortedIn ltInt a b R) := by
  obtain ⟨h1, h2, h3, h4⟩ := h.at hR
  obtain ⟨p1, p2⟩ := partialInsertionSort_holds swo_ltInt d a b hab (by omega) hB
  exact (partial_any blk off cap d L a b W h1 h2 h3 hb hab h4).mono fun e w' ⟨he, hs⟩ => ⟨_, _, he, h.then hR hs p1.1, p1, p2⟩
theorem c57 {w : World} {blk off L : Nat} (cap a b p : Nat) (d : Array Int) (W : World) (hR : RW w blk off L) (h : SL w W blk off L d) (h0 : 0 < a) (hap : a ≤ p) (hpb : p < b) (hb : b ≤ L) (hB : Sort.Below ltInt a b d) (hnl : ltInt d[a - 1]! d[p]! = false) :
    Calls Try.prog 57 #[.slice (some ⟨blk, off, none⟩) L cap, .int .i64 (a : Int), .int .i64 (b : Int), .int .i64 (p : Int)] W fun e w' => ∃ (m : Nat) (R : Array Int), e = .returned (.int .i64 (m : Int)) ∧ SL w w' blk off L R ∧ a < m ∧ m ≤ b ∧ Sort.Below ltInt m b R ∧ ∀ Z, PermIn m b R Z → SortedIn ltInt m b Z → PermIn a b d Z ∧ SortedIn ltInt a b Z := by
  obtain ⟨h1, h2, h3, h4⟩ := h.at hR
  obtain ⟨q1, q2, q3, q4, q5⟩ := round_eq swo_ltInt (partitionEqual_holds ltInt) h0 hap hpb (by omega) hB hnl (rfl : partitionEqual ltInt d a b p = ((partitionEqual ltInt d a b p).1, (partitionEqual ltInt d a b p).2))
  exact (parteq_any blk off cap d L a b p W h1 h2 h3 hb hap hpb h4).mono fun e w' ⟨he, hs⟩ => ⟨_, _, he, h.then hR hs q3, q1, q2, q4, q5⟩
theorem c58 {w : World} {blk off L : Nat} (cap a b p : Nat) (d : Array Int) (W : World) (hR : RW w blk off L) (h : SL w W blk off L d) (hap : a ≤ p) (hpb : p < b) (hb : b ≤ L) (hB : Sort.Below ltInt a b d) :
    Calls Try.prog 58 #[.slice (some ⟨blk, off, none⟩) L cap, .int .i64 (a : Int), .int .i64 (b : Int), .int .i64 (p : Int)] W fun e w' => ∃ (m : Nat) (c : Bool) (R : Array Int), e = .returned (.tuple #[.int .i64 (m : Int), .bool c]) ∧ SL w w' blk off L R ∧ a ≤ m ∧ m < b ∧ Sort.Below ltInt a m R ∧ Sort.Below ltInt (m + 1) b R ∧
      (∀ Z, PermIn a m R Z → SortedIn ltInt a m Z → Sort.Below ltInt (m + 1) b Z ∧ ∀ Y, PermIn (m + 1) b Z Y → SortedIn ltInt (m + 1) b Y → PermIn a b d Y ∧ SortedIn ltInt a b Y) ∧
      (∀ Z, PermIn (m + 1) b R Z → SortedIn ltInt (m + 1) b Z → Sort.Below ltInt a m Z ∧ ∀ Y, PermIn a m Z Y → SortedIn ltInt a m Y → PermIn a b d Y ∧ SortedIn ltInt a b Y) := by
  obtain ⟨h1, h2, h3, h4⟩ := h.at hR
  obtain ⟨q1, q2, q3, q4, q5, q6, q7⟩ := round_part swo_ltInt (partition_holds ltInt) hap hpb (by omega) hB (rfl : partition ltInt d a b p = ((partition ltInt d a b p).1, (partition ltInt d a b p).2.1, (partition ltInt d a b p).2.2))
  exact (part_any blk off cap d L a b p W h1 h2 h3 hb hap hpb h4).mono fun e w' ⟨he, hs⟩ => ⟨_, _, _, he, h.then hR hs q3, q1, q2, q4, q5, q6, q7⟩
end Go.Proofs.Yticodfdonpookaa.Su
