/- slices.Sorted of slices.Values at []int. Condition: the row within the reach. -/
import Derived.Test.YticodfdonpookaaSuVals
import Derived.Sort.Grow
import Derived.Test.YticodfdonpookaaSuSort
set_option linter.unusedSimpArgs false
set_option linter.unusedVariables false
namespace Go.Proofs.Yticodfdonpookaa.Su
open Go.RowKit Go.Shelf
/-- The elements in ascending order. -/
def srt (zs : List Int) : List Int := zs.mergeSort fun x y => decide (x ≤ y)
theorem srt_len (zs : List Int) : (srt zs).length = zs.length := by simp [srt]
theorem srt_perm (zs : List Int) : (srt zs).Perm zs := List.mergeSort_perm _ _
theorem srt_up (zs : List Int) : (srt zs).Pairwise (· ≤ ·) := by
  have := List.pairwise_mergeSort (le := fun x y : Int => decide (x ≤ y)) (fun a b c h1 h2 => by simp at h1 h2 ⊢; omega) (fun a b => by simp; omega) zs
  exact this.imp fun h => by simpa using h
/-- Any other list in ascending order of the same elements is this one. -/
theorem srt_unique {zs l : List Int} (hp : l.Perm zs) (hs : l.Pairwise (· ≤ ·)) : l = srt zs :=
  List.Perm.eq_of_pairwise (le := (· ≤ ·)) (fun a b _ _ h1 h2 => Int.le_antisymm h1 h2) hs (srt_up zs) (hp.trans (srt_perm zs).symm)
theorem holds_block {w : World} {g : Nat} {cur : Array Value} {e : TypeId} {ss : List Int} (hb : w.heap[g]? = some (.cells cur e (0, 0))) (ht : cur.toList.take ss.length = ss.map (Value.int .u64)) : Sort.Holds (Value.int .u64) w g 0 ss.toArray := by
  intro j hj
  have hj' : j < ss.length := by simpa using hj
  refine ⟨?_, by simp [World.frozen?, hb]⟩
  have h1 : (cur.toList.take ss.length)[j]? = (ss.map (Value.int .u64))[j]? := by rw [ht]
  rw [List.getElem?_take_of_lt hj'] at h1
  simp only [World.cell?, hb, Nat.zero_add]
  simp only [Option.isSome_none, Bool.false_eq_true, if_false]
  rw [← Array.getElem?_toList, h1]
  simp [hj']
theorem take_put (cur : Array Value) (ts : List Int) (h : ts.length ≤ cur.size) : (Sort.putCells (Value.int .u64) 0 ts.toArray cur).toList.take ts.length = ts.map (Value.int .u64) := by
  apply List.ext_getElem?
  intro j
  by_cases hj : j < ts.length
  · rw [List.getElem?_take_of_lt hj, Array.getElem?_toList]
    simp [Sort.putCells, hj, show j < cur.size by omega]
  · rw [List.getElem?_take_eq_none (by omega), List.getElem?_eq_none (by simp; omega)]
theorem heap_sort {w : World} {g n : Nat} {os : Array Obj} {cur : Array Value} {e : TypeId} (d : Array Int) (hb : w.heap[g]? = some (.cells cur e (0, 0))) :
    (Sort.grow (Sort.putRow (Value.int .u64) (Sort.ahead w n) g 0 d) os).heap[g]? = some (.cells (Sort.putCells (Value.int .u64) 0 d cur) e (0, 0)) := by
  have hg : g < w.heap.size := (Array.getElem?_eq_some_iff.1 hb).1
  rw [Sort.heap_grow_old _ _ (by simpa using hg)]
  simp [Sort.putRow, Sort.mapBlock, Sort.ahead, Array.getElem?_modify, hb, Sort.onCells]
theorem grownBy_sort {w : World} {g n : Nat} {os : Array Obj} (d : Array Int) : w.grownBy (Sort.grow (Sort.putRow (Value.int .u64) (Sort.ahead w n) g 0 d) os) (some g) := by
  refine ⟨rfl, rfl, rfl, by simp, fun k hk hne => ?_⟩
  rw [Sort.heap_grow_old _ _ (by simpa using hk)]
  have : g ≠ k := fun e => hne (by rw [e])
  simp [Sort.putRow, Sort.mapBlock, Sort.ahead, Array.getElem?_modify, this]
/-- What slices.Sort answers. -/
def SortC : Prop := (∀ (blk off cap : Nat) (zs : List Int) (w : World), Sort.Holds (Value.int .u64) w blk off zs.toArray → blk < w.heap.size → zs.length < 4611686018427387904 →
    Calls Try.prog 32 #[.slice (some ⟨blk, off, none⟩) zs.length cap] w fun e w' => e = .returned (.tuple #[]) ∧ ∃ n os, w' = Sort.grow (Sort.putRow (Value.int .u64) (Sort.ahead w n) blk off (zs.mergeSort fun x y => decide (x ≤ y)).toArray) os) ∧
  (∀ (p : Option Addr) (cap : Nat) (w : World), Calls Try.prog 32 #[.slice p 0 cap] w fun e w' => e = .returned (.tuple #[]) ∧ w' = w)
theorem sortC : SortC := ⟨sort_word, sort_none⟩
theorem sort_own (base : Nat) (v : Value) (n : Nat) (zs : List Int) (w : World) (h : w.ownsRow base 22 1 v n (zs.map (Value.int .u64))) (hn : zs.length = n) (hm : n ≤ 17592186044416) :
    Calls Try.prog 32 #[v] w fun e w' => e = .returned (.tuple #[]) ∧ w'.ownsRow base 22 1 v n ((srt zs).map (Value.int .u64)) ∧ w.grownBy w' v.ownBlock := by
  subst hn
  rcases h.2 with ⟨rfl, h0⟩ | ⟨g, cap, cur, rfl, hbg, hg, h1, h2, h3, h4⟩
  · have hz : zs = [] := List.length_eq_zero_iff.1 h0
    subst hz
    refine (sortC.2 none 0 w).mono ?_
    rintro e w' ⟨rfl, rfl⟩
    exact ⟨rfl, by rw [show srt [] = [] by simp [srt]]; exact h, ⟨rfl, rfl, rfl, Nat.le_refl _, fun _ _ _ => rfl⟩⟩
  · rw [Nat.mul_one] at h4
    refine (sortC.1 g 0 cap zs w (holds_block hg h4) (Array.getElem?_eq_some_iff.1 hg).1 (by omega)).mono ?_
    rintro e w' ⟨rfl, k, os, rfl⟩
    refine ⟨rfl, ⟨by simp [srt_len], .inr ⟨g, cap, _, rfl, hbg, heap_sort _ hg, h1, h2, by simp [Sort.putCells, h3], ?_⟩⟩, grownBy_sort _⟩
    rw [Nat.mul_one]
    have h5 := take_put cur (srt zs) (by rw [srt_len]; omega)
    rw [srt_len] at h5
    exact h5
set_option maxHeartbeats 1000000 in
/-- slices.Sorted, of what slices.Values has handed back. -/
theorem sorted_any (v : Value) (zs : List Int) (w : World) (h : Rd w v zs) (hr : zs.length * 8 ≤ 140737488351232) :
    Calls Try.prog 20 #[.func (.func 33) #[] #[.pointer (some ⟨w.heap.size, 0, none⟩)]] (w.alloc (.cells #[v] 23)) fun e w' => ∃ v', e = .returned v' ∧ w'.ownsRow w.heap.size 22 1 v' zs.length ((srt zs).map (Value.int .u64)) ∧ Below w.heap.size w w' := by
  have HCO : Hid (Calls Try.prog 31 #[.func (.func 33) #[] #[.pointer (some ⟨w.heap.size, 0, none⟩)]] (w.alloc (.cells #[v] 23)) fun e w' => ∃ v', e = .returned v' ∧ w'.ownsRow w.heap.size 22 1 v' zs.length (zs.map (Value.int .u64)) ∧ Below w.heap.size w w') := by
    obtain ⟨a, cap, rfl, hlc, hcm, hop⟩ := h.open
    refine ((callsIn_wide (n := 3)).1 (collect_in Fence.wide 3 trivial trivial trivial rfl (by omega) w.heap.size a zs.length cap zs hr (w.alloc (.cells #[.slice a zs.length cap] 23)) (by simp) (by rw [cell_of_row _ _ _ _ 23 (0, 0) (heap_alloc_new w _)]; rfl) rfl hlc hcm (fun j hj => ?_))).mono ?_
    · obtain ⟨b, off, h1, h2, h3⟩ := hop j hj
      exact ⟨b, off, h1, by simp; omega, fun j hj => (World.cell?_of_block (Below.heap_alloc w _ b h2)).trans (h3 j hj)⟩
    · rintro e w' ⟨v', rfl, ho, hb⟩
      exact ⟨v', rfl, own_base ho (by simp), ((Below.refl _ _).alloc (Nat.le_refl _) _).trans (hb.mono (by simp))⟩
  clear h
  have hm : zs.length ≤ 17592186044416 := by omega
  obtain ⟨n, hn⟩ : ∃ n, zs.length = n := ⟨_, rfl⟩
  rw [hn] at HCO hm ⊢
  have HN := Lib.hid hn
  clear hr hn
  go_enter Try.func20, Try.ntmps20
  go_wp2_with fail
  refine HCO.out.mono ?_
  rintro e w1 ⟨v', rfl, ho, hb⟩
  have HO := Lib.hid ho
  have HB := Lib.hid hb
  have HS1 := Lib.hid (sort_own w.heap.size v' n zs w1 ho HN.out hm)
  have HLT : Hid (∀ k, v'.ownBlock = some k → w.heap.size ≤ k) := fun k hk => (ho.lt k hk).1
  clear ho hb HCO
  go_wp2_with fail
  refine HS1.out.mono ?_
  rintro e w2 ⟨rfl, ho2, hg2⟩
  have HO2 := Lib.hid ho2
  have HB2 : Hid (Below w.heap.size w w2) := HB.out.grown hg2 HB.out.size HLT.out
  clear ho2 hg2 HS1
  go_wp2_with fail
  go_ret
  exact ⟨_, rfl, HO2.out, HB2.out⟩
theorem values_any (v : Value) (zs : List Int) (w : World) (h : Rd w v zs) :
    Calls Try.prog 21 #[v] w fun e w' => e = .returned (.func (.func 33) #[] #[.pointer (some ⟨w.heap.size, 0, none⟩)]) ∧ w' = w.alloc (.cells #[v] 23) := by
  obtain ⟨a, cap, rfl, -⟩ := h.open
  exact (callsIn_wide (n := 3)).1 (vals_in Fence.wide 3 trivial rfl a zs.length cap w)
end Go.Proofs.Yticodfdonpookaa.Su
