/- insertionSortOrdered[uint64]: it computes the plain one. Condition: indices within the row. -/
import Derived.Test.YticodfdonpookaaSuA
import Derived.BigRegion
set_option linter.unusedSimpArgs false
set_option linter.unusedVariables false
set_option maxRecDepth 20000
namespace Go.Proofs.Yticodfdonpookaa.Su
open Go.RowKit Go.Sort
theorem insInner_size (lt : Int → Int → Bool) (a : Nat) : ∀ j d, (insInner lt a j d).size = d.size
  | 0, d => rfl
  | j + 1, d => by
    unfold insInner
    split
    · rw [insInner_size, swp_size]
    · rfl
theorem insInner_stop (lt : Int → Int → Bool) (a j : Nat) (d : Array Int) (h : j ≤ a) : insInner lt a j d = d := by
  cases j with
  | zero => rfl
  | succ j => rw [insInner, decide_eq_false (by omega), Bool.false_and]; rfl
set_option maxHeartbeats 3200000 in
theorem ins_any (blk off cap : Nat) (d : Array Int) (L a b : Nat) (w : World) (hH : Holds eu w blk off d) (hb : blk < w.heap.size) (hL : d.size = L) (hbL : b ≤ L) (hL2 : L < 4611686018427387904) (haL : a ≤ L) :
    Calls Try.prog 50 #[.slice (some ⟨blk, off, none⟩) L cap, .int .i64 (a : Int), .int .i64 (b : Int)] w fun e w' => e = .returned (.tuple #[]) ∧ SU w w' blk off (insertionSort ltInt d a b) := by
  have HS0 := Lib.hid (SU.refl hH)
  have HH := Lib.hid hH
  have HL := Lib.hid hL
  clear hH hL
  have e0 : IntKind.i64.wrap ((a : Int) + 1) = (a : Int) + 1 := by rw [IntKind.wrap_i64]; omega
  go_enter Try.func50, Try.ntmps50
  go_wp2_with fail
  go_loopw [6] (fun iv wr => ∃ (i : Nat) (di : Array Int), iv = .int .i64 (i : Int) ∧ i ≤ L + 1 ∧ a < i ∧ Hid (di.size = L) ∧ Hid (SU w wr blk off di) ∧ Hid (insOuter ltInt a b i di = insertionSort ltInt d a b)) (fun iv _ => L + 1 - (intOf iv).toNat)
  case atStart => exact ⟨a + 1, d, by go_num, by omega, by omega, HL.out, HS0.out, rfl⟩
  case round =>
    clear HS0
    obtain ⟨i, di, rfl, hiL, hai, HDL, HS, HE⟩ := hrel
    by_cases hib : i < b
    · have hibI : (i : Int) < (b : Int) := by omega
      have HE2 : Hid (insOuter ltInt a b (i + 1) (insInner ltInt a i di) = insertionSort ltInt d a b) := by
        have e : insOuter ltInt a b i di = insOuter ltInt a b (i + 1) (insInner ltInt a i di) := by
          rw [insOuter, if_pos hib]
        exact e.symm.trans HE.out
      obtain ⟨wo, rfl⟩ : ∃ wo : World, wo = wr := ⟨_, rfl⟩
      go_wp2_with fail
      go_loopw [7] (fun jv wr => ∃ (j : Nat) (dj : Array Int), jv = .int .i64 (j : Int) ∧ j ≤ i ∧ a ≤ j ∧ Hid (dj.size = L) ∧ Hid (SU w wr blk off dj) ∧ Hid (insInner ltInt a j dj = insInner ltInt a i di)) (fun jv _ => (intOf jv).toNat)
      case atStart => exact ⟨i, di, rfl, Nat.le_refl _, by omega, HDL.out, HS.out, rfl⟩
      case round =>
        clear HS
        obtain ⟨j, dj, rfl, hji, haj, HDJ, HSJ, HEJ⟩ := hrel
        by_cases hja : a < j
        · obtain ⟨k, rfl⟩ : ∃ k, j = k + 1 := ⟨j - 1, by omega⟩
          obtain ⟨c1, f1⟩ := HSJ.out.cell HH.out (by rw [HDJ.out, HL.out]) hb (k + 1) (by rw [HDJ.out]; omega)
          obtain ⟨c0, f0⟩ := HSJ.out.cell HH.out (by rw [HDJ.out, HL.out]) hb k (by rw [HDJ.out]; omega)
          have HSW := Lib.hid (HSJ.out.swp hb (k + 1) k (by rw [HDJ.out]; omega) (by rw [HDJ.out]; omega))
          have HIN : Hid (insInner ltInt a (k + 1) dj = if ltInt dj[k + 1]! dj[k]! = true then insInner ltInt a k (swp dj (k + 1) k) else dj) := by
            show _ = _
            have e : decide (k + 1 > a) = true := decide_eq_true hja
            rw [insInner, e, Bool.true_and]
          generalize dj[k + 1]! = x at *
          generalize dj[k]! = y at *
          have hjaI : (a : Int) < (k : Int) + 1 := by omega
          have hka : (a : Int) ≤ (k : Int) := by omega
          have HLE : Hid (∀ m, Calls Try.prog 56 #[.int .u64 x, .int .u64 y] (wr.drewN m) fun e w' => e = .returned (.bool (ltInt x y)) ∧ ∃ m', w' = wr.drewN m') := fun m => (less_any x y _).mono fun e w' ⟨h1, h2⟩ => ⟨h1, m, h2⟩
          have p1 : decide ((a : Int) < (k : Int) + 1) = true := decide_eq_true hjaI
          have p2 : (0 ≤ (k : Int) + 1 ∧ (k : Int) + 1 < (L : Int)) = True := eq_true (by omega)
          have p3 : (0 ≤ (k : Int) ∧ (k : Int) < (L : Int)) = True := eq_true (by omega)
          cases hlt : ltInt x y with
          | true =>
            rw [hlt, if_pos rfl] at HIN
            rw [hlt] at HLE
            clear hlt
            go_wp2_with fail
            go_quiet ((go_at_call 56; (with_reducible exact HLE.out _)))
            go_wp2_with fail
            go_region
            clear c1 f1 c0 f0
            go_wp2_with fail
            go_roundw
            case rel => exact ⟨k, _, by go_num, by omega, by omega, by show _ = _; rw [swp_size]; exact HDJ.out, (HSW.out.drewN _).drew, HIN.out.symm.trans HEJ.out⟩
            case measure => simp [intOf]
          | false =>
            rw [hlt, if_neg (by decide)] at HIN
            rw [hlt] at HLE
            clear hlt
            go_wp2_with fail
            go_quiet ((go_at_call 56; (with_reducible exact HLE.out _)))
            go_wp2_with fail
            have e : dj = insInner ltInt a i di := HIN.out.symm.trans HEJ.out
            exact ⟨⟨i + 1, dj, by go_num, by omega, by omega, HDJ.out, HSJ.out.drewN _, by rw [e]; exact HE2.out⟩, by simp [intOf]; omega⟩
        · have hja' : a = j := by omega
          have HIN := Lib.hid (insInner_stop ltInt a j dj (by omega))
          have p1 : decide ((a : Int) < (j : Int)) = false := decide_eq_false (by omega)
          go_wp2_with fail
          go_quiet (fail)
          go_wp2_with fail
          have e : dj = insInner ltInt a i di := HIN.out.symm.trans HEJ.out
          exact ⟨⟨i + 1, dj, by go_num, by omega, by omega, HDJ.out, HSJ.out.drewN _, by rw [e]; exact HE2.out⟩, by simp [intOf]; omega⟩
    · have hibI : ¬ (i : Int) < (b : Int) := by omega
      have e : di = insertionSort ltInt d a b := by
        have e2 : insOuter ltInt a b i di = di := by rw [insOuter, if_neg hib]
        exact e2.symm.trans HE.out
      have HO := HS.out
      rw [e] at HO
      have HO2 := Lib.hid HO
      clear HO e
      go_wp2_with fail
      exact bodyPost_end (results_none rfl _ _ _) rfl ⟨rfl, HO2.out⟩
end Go.Proofs.Yticodfdonpookaa.Su
