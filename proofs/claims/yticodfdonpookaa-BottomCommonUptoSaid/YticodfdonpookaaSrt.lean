/- slices.SortFunc with Join's closure, slices.Compact behind it: what they leave. Condition: a row that is not empty. -/
import Derived.Test.YticodfdonpookaaSrtL
import Derived.Test.YticodfdonpookaaLays
import Derived.Shelf.SlSortCmp.Whole1
import Derived.Shelf.SlicesE.Compact
set_option linter.unusedSimpArgs false
set_option linter.unusedVariables false
set_option maxRecDepth 20000
namespace Go.Proofs.Yticodfdonpookaa
open Go.RowKit
def cf (s x y : BitVec 64) : Int := cmpI (U (rk s x)) (U (rk s y))
theorem cf_lt (s x y : BitVec 64) : ltOf (cf s) x y = decide (U (rk s x) < U (rk s y)) := by
  unfold ltOf cf cmpI
  by_cases h : U (rk s x) < U (rk s y)
  · rw [if_pos h, decide_eq_true h]; rfl
  · rw [if_neg h, decide_eq_false h]
    split <;> rfl
theorem swo (s : BitVec 64) : Sort.SWO (ltOf (cf s)) where
  irrefl x := by rw [cf_lt]; simp
  trans x y z h1 h2 := by rw [cf_lt] at *; simp at *; omega
  ntrans x y z h1 h2 := by rw [cf_lt] at *; simp at *; omega
theorem sort_own (s : BitVec 64) (B base : Nat) (v : Value) (n : Nat) (xs : List (BitVec 64)) (w : World) (h : w.ownsRow base 22 1 v n ((us xs).map (Value.int .u64))) (hn : xs.length = n) (h0 : 0 < n)
    (hB : B < base) (hBw : B < w.heap.size) (hc : w.cell? ⟨B, 0, none⟩ = some (.int .u64 (U s))) (hm : n ≤ 17592186044416) :
    Calls Try.prog 24 #[v, .func (.func 25) #[] #[.pointer (some ⟨B, 0, none⟩)]] w fun e w' => e = .returned (.tuple #[]) ∧ ∃ ys : List (BitVec 64), ys.Perm xs ∧ Wk s ys ∧ w'.ownsRow base 22 1 v n ((us ys).map (Value.int .u64)) ∧ Below base w w' := by
  rw [us_map] at h
  rcases h.2 with ⟨rfl, h0'⟩ | ⟨g, cap, cur, rfl, hbg, hg, h1, h2, h3, h4⟩
  · omega
  · rw [Nat.mul_one, ← hn] at h4
    have hlt := (Array.getElem?_eq_some_iff.1 hg).1
    have hcmp : CmpLays1 Try.prog 25 #[.pointer (some ⟨B, 0, none⟩)] eU (cf s) g 0 xs.toArray.size w := fun m os dk hs x y => by
      refine (clo_any s x y B _ ?_).mono ?_
      · rw [World.cell?_of_block ((grownBy_sort eU dk).block B hBw (fun e => by injection e with e; omega))]; exact hc
      · rintro e w' ⟨rfl, q, rfl⟩
        exact ⟨rfl, q, #[], by rw [Sort.grow_empty]⟩
    have := Any.slices_SortFunc Try.laysSortF eU (fun _ => rfl) (cf s) (swo s) 25 #[.pointer (some ⟨B, 0, none⟩)] g 0 cap xs.toArray w (enters_of Try.func25 (by kernel_rfl) rfl) hcmp (holds_block eU hg h4) hlt (by simp; omega)
    have hsz : xs.toArray.size = n := by simp [hn]
    rw [hsz] at this
    refine Calls.mono this ?_
    rintro e w' ⟨rfl, d', k, os, hp, hs, rfl⟩
    have hl : d'.size = n := hp.1.trans hsz
    refine ⟨rfl, d'.toList, ?_, ?_, ?_, ?_⟩
    · have := hp.2.2
      rw [Array.toList_extract, Array.toList_extract] at this
      simp [List.extract_eq_take_drop, hl, hn] at this
      rwa [List.take_of_length_le (by simp [hl]), List.take_of_length_le (by omega)] at this
    · refine List.pairwise_iff_getElem.2 fun i j hi hj hij => ?_
      have := hs i j (Nat.zero_le _) hij (by simpa [hl] using hj)
      rw [cf_lt, decide_eq_false_iff_not] at this
      have e1 : d'[i]! = d'.toList[i] := by simp [getElem!_pos, show i < d'.size by simpa using hi]
      have e2 : d'[j]! = d'.toList[j] := by simp [getElem!_pos, show j < d'.size by simpa using hj]
      rw [e1, e2] at this
      omega
    · rw [us_map]
      have := own_sorted eU (n := n) (k := k) (os := os) (ts := d'.toList) hbg hg h1 h2 (by rw [h3, Nat.mul_one]) (by simp [hl])
      simpa [sortWorld] using this
    · exact (Go.RowKit.Below.refl _ _).grown (grownBy_sort eU d') (by omega) (fun k hk => by simp [Value.ownBlock] at hk; omega)
theorem zero22 (w : World) : (zeroValue 22).run Try.prog w = .ok (.int .u64 0) w := by
  have := Try.zeroValue22 w
  exact this
theorem cpt_own (s : BitVec 64) (base : Nat) (v : Value) (n : Nat) (ys : List (BitVec 64)) (w : World) (h : w.ownsRow base 22 1 v n ((us ys).map (Value.int .u64))) (hn : ys.length = n) (h0 : 0 < n) (hs : Wk s ys) (hm : n ≤ 17592186044416) :
    Calls Try.prog 19 #[v] w fun e w' => ∃ g cap, e = .returned (.slice (some ⟨g, 0, none⟩) (dd s ys).length cap) ∧ (dd s ys).length ≤ n ∧ n ≤ cap ∧ cap ≤ 9223372036854775807 ∧ w'.ownsRow base 22 1 (.slice (some ⟨g, 0, none⟩) (dd s ys).length cap) (dd s ys).length ((us (dd s ys)).map (Value.int .u64)) ∧ Below base w w' := by
  rcases h.2 with ⟨rfl, h0'⟩ | ⟨g, cap, cur, rfl, hbg, hg, h1, h2, h3, h4⟩
  · omega
  · have hul : (us ys).length = n := by rw [us_len, hn]
    rw [Nat.mul_one, ← hul] at h4
    have hlt := (Array.getElem?_eq_some_iff.1 hg).1
    have := AnyE.slices_Compact Try.laysCompact (Value.int .u64) (fun _ => rfl) (EqlAt.intD Try.prog 22 .u64) (NeqAt.intD Try.prog 22 .u64) 0 zero22 g 0 cap (us ys).toArray w (holds_block (Value.int .u64) hg h4) (by simp; omega) (by simp; omega)
    have hsz : (us ys).toArray.size = n := by simp [hul]
    rw [hsz] at this
    have hcd : Lib.compactUpTo (us ys).toArray n = us (dd s ys) := by rw [← hn]; exact compact_dd hs
    rw [hcd, us_len] at this
    have hle : (dd s ys).length ≤ n := by
      have := List.length_filter_le (Lib.keeps (us ys).toArray) (List.range n)
      rw [← us_len, ← hcd]
      unfold Lib.compactUpTo
      rw [List.length_map]
      simpa using this
    refine Calls.mono this ?_
    rintro e w' ⟨rfl, k, rfl⟩
    have hts : (us (dd s ys) ++ List.replicate (n - (dd s ys).length) 0).length = n := by simp [us_len]; omega
    have ho := own_sorted (Value.int .u64) (n := n) (k := k) (os := #[]) hbg hg h1 h2 (by rw [h3, Nat.mul_one]) hts
    rw [Sort.grow_empty] at ho
    refine ⟨g, cap, rfl, hle, h1, by unfold maxLen at h2; exact h2, ?_, ?_⟩
    · rcases ho.2 with ⟨hx, -⟩ | ⟨g', cap', cur', hv, hbg', hg', k1, k2, k3, k4⟩
      · cases hx
      · injection hv with e1 _ e3
        injection e1 with e1
        injection e1 with e1 _ _
        subst e1 e3
        refine ⟨by simp [us_len], .inr ⟨g, cap, cur', rfl, hbg', hg', by omega, k2, k3, ?_⟩⟩
        rw [Nat.mul_one] at k4 ⊢
        have e5 := congrArg (List.take (dd s ys).length) k4
        rw [List.take_take, Nat.min_eq_left hle, List.map_append, List.take_left' (by simp [us_len])] at e5
        exact e5
    · have hgr := grownBy_sort (Value.int .u64) (w := w) (g := g) (n := k) (os := #[]) (us (dd s ys) ++ List.replicate (n - (dd s ys).length) 0).toArray
      rw [Sort.grow_empty] at hgr
      exact (Go.RowKit.Below.refl _ _).grown hgr (by omega) (fun k hk => by simp at hk; omega)
end Go.Proofs.Yticodfdonpookaa
