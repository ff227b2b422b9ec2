/- (*Int).trim: what it leaves. Conditions: the box's cells. -/
import Derived.Test.YtidnmdfpnmahpaaBigCmp
set_option linter.unusedSimpArgs false
set_option linter.unusedVariables false
set_option maxRecDepth 20000
namespace Go.Proofs.Ytidnmdfpnmahpaa.Big
open Go.RowKit
theorem Put.of_cells {w w1 w' : World} {b o : Nat} {ng : Bool} {v : Value} (hb : Below w.heap.size w w1) (hl : b < w.heap.size)
    (hos : w'.os = w1.os) (ht : w'.tape = w1.tape) (ho : w'.output = w1.output) (hs : w'.heap.size = w1.heap.size) (hne : ∀ i, i ≠ b → w'.heap[i]? = w1.heap[i]?)
    (h : ∀ (cs : Array Value) (t : TypeId), w1.heap[b]? = some (.cells cs t (0, 0)) → w'.heap[b]? = some (.cells ((cs.setIfInBounds o (.bool ng)).setIfInBounds (o + 1) v) t (0, 0))) : Put w w' b o ng v :=
  ⟨hos.trans hb.os, ht.trans hb.tape, ho.trans hb.output, by rw [hs]; exact hb.size, fun i hi hn => (hne i hn).trans (hb.block i hi), fun cs t hh => h cs t ((hb.block b hl).trans hh)⟩
theorem set_self {cs : Array Value} {o : Nat} {x : Value} (h : cs[o]? = some x) : cs.setIfInBounds o x = cs := by
  apply Array.ext_getElem?
  intro i
  rw [Array.getElem?_setIfInBounds]
  by_cases e : o = i
  · subst e
    have := (Array.getElem?_eq_some_iff.1 h).1
    rw [if_pos rfl, if_pos this, h]
  · simp [e]
/-- The row alone is stored. -/
theorem Put.row {w w1 : World} {b o : Nat} {ng : Bool} (hb : Below w.heap.size w w1) (hl : b < w.heap.size) (hc : w1.cell? ⟨b, o, none⟩ = some (.bool ng)) (v : Value) (k : Nat) : Put w ((w1.setCell ⟨b, o + 1, none⟩ v).drewN k) b o ng v := by
  refine Put.of_cells hb hl rfl rfl rfl ?_ (fun i hi => ?_) (fun cs t h => ?_)
  · show (w1.setCell ⟨b, o + 1, none⟩ v).heap.size = _
    simp
  · exact Below.heap_setCell _ _ _ _ hi
  · rw [cell_of_row _ _ _ _ _ _ h] at hc
    rw [set_self hc]
    exact heap_at_setCell h
/-- The row, then the sign. -/
theorem Put.swap {w w1 : World} {b o : Nat} {ng : Bool} (hb : Below w.heap.size w w1) (hl : b < w.heap.size) (v : Value) (k : Nat) : Put w (((w1.setCell ⟨b, o + 1, none⟩ v).setCell ⟨b, o, none⟩ (.bool ng)).drewN k) b o ng v := by
  refine Put.of_cells hb hl rfl rfl rfl ?_ (fun i hi => ?_) (fun cs t h => ?_)
  · show ((w1.setCell ⟨b, o + 1, none⟩ v).setCell ⟨b, o, none⟩ (.bool ng)).heap.size = _
    simp
  · show ((w1.setCell ⟨b, o + 1, none⟩ v).setCell ⟨b, o, none⟩ (.bool ng)).heap[i]? = _
    rw [Below.heap_setCell _ _ _ _ hi, Below.heap_setCell _ _ _ _ hi]
  · have e : ((cs.setIfInBounds o (.bool ng)).setIfInBounds (o + 1) v) = ((cs.setIfInBounds (o + 1) v).setIfInBounds o (.bool ng)) := by
      apply Array.ext_getElem?
      intro i
      simp only [Array.getElem?_setIfInBounds, Array.size_setIfInBounds]
      by_cases e : o + 1 = i
      · simp [e, show ¬ o = i by omega]
      · by_cases e2 : o = i
        · simp [e, e2]
        · simp [e, e2]
    rw [e]
    exact heap_at_setCell (heap_at_setCell h)
/-- The sign alone. -/
theorem Put.sign {w w1 : World} {b o : Nat} {ng : Bool} {v : Value} (hb : Below w.heap.size w w1) (hl : b < w.heap.size) (hc : w1.cell? ⟨b, o + 1, none⟩ = some v) (k : Nat) : Put w ((w1.setCell ⟨b, o, none⟩ (.bool ng)).drewN k) b o ng v := by
  refine Put.of_cells hb hl rfl rfl rfl ?_ (fun i hi => ?_) (fun cs t h => ?_)
  · show (w1.setCell ⟨b, o, none⟩ (.bool ng)).heap.size = _
    simp
  · exact Below.heap_setCell _ _ _ _ hi
  · rw [cell_of_row _ _ _ _ _ _ h] at hc
    rw [set_self (by rw [Array.getElem?_setIfInBounds_ne (by omega)]; exact hc)]
    exact heap_at_setCell h
def sgT (ng : Bool) (N : Nat) : Bool := if N = 0 then false else ng
set_option maxHeartbeats 1600000 in
theorem trim_any (zb zo m n c : Nat) (a : Option Addr) (ng : Bool) (l : List Nat) (w : World) (hB : Box w zb m) (ho : zo + 1 < m) (h0 : w.cell? ⟨zb, zo, none⟩ = some (.bool ng)) (h1 : w.cell? ⟨zb, zo + 1, none⟩ = some (.slice a n c)) (h : Rd w (.slice a n c) (castN l)) (hw : Wd l) (hnil : a = none → n = 0 ∧ c = 0) :
    Calls Try.prog 46 #[.pointer (some ⟨zb, zo, none⟩)] w fun e w' => e = .returned (.pointer (some ⟨zb, zo, none⟩)) ∧ PutN w w' zb zo (sgT ng (val l)) (val l) := by
  obtain ⟨hl, hc1, hc2⟩ := h.lenEq
  have HR := Lib.hid h
  have HL := Lib.hid hl
  have hzl := hB.lt
  have f0 := hB.fr zo
  have f1 := hB.fr (zo + 1)
  have HN := Lib.hid hnil
  have HC0 := Lib.hid h0
  have HEND : Hid (∀ k, k ≤ n → l.take k = trimL l → RN w (.slice a k c) (val l)) := fun k hk ht => by
    refine ⟨trimL l, ?_, trimL_canon hw, val_trimL l, fun n' c' he => ?_⟩
    · rw [← ht]; exact h.take k c hk (by omega) hc2
    · injection he with h3 h4 h5
      subst h3; subst h4; subst h5
      obtain ⟨h6, h7⟩ := hnil rfl
      exact ⟨by omega, h7⟩
  have HV : Hid (∀ k, k ≤ n → l.take k = trimL l → (val l = 0 ↔ k = 0)) := fun k hk ht => by
    have e1 := len_zero (trimL_canon hw)
    rw [val_trimL, ← ht, List.length_take, hl] at e1
    constructor
    · intro e; have := e1.2 e; omega
    · intro e; exact e1.1 (by omega)
  clear h hl hnil
  go_enter Try.func46, Try.ntmps46
  go_wp2_with fail
  go_loop [3] (fun kv => ∃ k : Nat, k ≤ n ∧ kv = .int .i64 k ∧ Hid (trimL (l.take k) = trimL l)) (fun kv => (intOf kv).toNat)
  case atStart => exact ⟨n, Nat.le_refl _, rfl, by show _ = _; rw [List.take_of_length_le (by rw [HL.out]; exact Nat.le_refl _)]⟩
  case round =>
    obtain ⟨k, hk, rfl, HT⟩ := hrel
    rcases Nat.eq_zero_or_pos k with hk0 | hk0
    · subst hk0
      have HE := Lib.hid (HEND.out 0 (by omega) (by rw [← HT.out]; simp [trimL]))
      have HZ : Hid (val l = 0) := (HV.out 0 (by omega) (by rw [← HT.out]; simp [trimL])).2 rfl
      go_wp2_with fail
      go_ret
      refine ⟨rfl, ?_⟩
      rw [show sgT ng (val l) = false from if_pos HZ.out]
      exact ⟨_, Put.swap (Below.refl _ _) hzl _ 0, HE.out.put hB (Put.swap (Below.refl _ _) hzl _ 0)⟩
    · obtain ⟨j, rfl⟩ : ∃ j, k = j + 1 := ⟨k - 1, by omega⟩
      obtain ⟨b, off, rfl, hb, hcc⟩ := HR.out.at (by omega)
      have cx := hcc j (by omega)
      have e1 : IntKind.i64.wrap (((j + 1 : Nat) : Int) - 1) = (j : Int) := by rw [IntKind.wrap_i64]; omega
      have e2 : (((j + 1 : Nat) : Int) - 1) = (j : Int) := by omega
      have hjn : (j : Int) < (n : Int) := by omega
      have HTK : Hid (l.take (j + 1) = l.take j ++ [l.getD j 0]) := take_last l j (by rw [HL.out]; omega)
      clear hcc
      by_cases hx : l.getD j 0 = 0
      · have HTn : Hid (trimL (l.take j) = trimL l) := by
          show _ = _
          rw [← HT.out, HTK.out, hx, trimL_zero]
        rw [hx] at cx
        clear hx
        go_wp2_with fail
        go_round
        case rel => exact ⟨j, by omega, by go_num, HTn.out⟩
        case measure => simp [intOf]
      · have HTn : Hid (l.take (j + 1) = trimL l) := by
          show _ = _
          rw [← HT.out, HTK.out, trimL_last _ _ hx]
        have hx' : (((l.getD j 0 : Nat) : Int) == 0) = false := by rw [beq_eq_false_iff_ne]; omega
        have hx2 : (((l.getD j 0 : Nat) : Int) = 0) = False := eq_false (by omega)
        have HE := Lib.hid (HEND.out (j + 1) hk HTn.out)
        have HZ : Hid (¬ val l = 0) := fun e => by have := (HV.out (j + 1) hk HTn.out).1 e; omega
        have hkn : ((j + 1 : Nat) : Int) ≤ (n : Int) := by omega
        have hk0 : ((j + 1 : Nat) : Int) ≠ 0 := by omega
        generalize l.getD j 0 = x at *
        clear hx HEND HV
        go_wp2_with fail
        go_ret
        refine ⟨rfl, ?_⟩
        rw [show sgT ng (val l) = ng from if_neg HZ.out]
        refine ⟨_, Put.row (Below.refl _ _) hzl HC0.out _ 0, ?_⟩
        exact HE.out.put hB (Put.row (Below.refl _ _) hzl HC0.out _ 0)
end Go.Proofs.Ytidnmdfpnmahpaa.Big
