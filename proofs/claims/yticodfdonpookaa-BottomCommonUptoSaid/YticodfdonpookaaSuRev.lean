/- reverseRangeOrdered[uint64]: it computes the plain one. Condition: indices within the row, a range that is not empty. -/
import Derived.Test.YticodfdonpookaaSuSift
set_option linter.unusedSimpArgs false
set_option linter.unusedVariables false
set_option maxRecDepth 20000
namespace Go.Proofs.Yticodfdonpookaa.Su
open Go.RowKit Go.Sort
set_option maxHeartbeats 3200000 in
theorem rev_any (blk off cap : Nat) (d : Array Int) (L a b : Nat) (w : World) (hH : Holds eu w blk off d) (hb : blk < w.heap.size) (hL : d.size = L) (hbL : b ≤ L) (hb1 : 1 ≤ b) (hL2 : L < 4611686018427387904) (haL : a ≤ L) :
    Calls Try.prog 54 #[.slice (some ⟨blk, off, none⟩) L cap, .int .i64 (a : Int), .int .i64 (b : Int)] w fun e w' => e = .returned (.tuple #[]) ∧ SU w w' blk off (reverseRange d a b) := by
  have HS0 := Lib.hid (SU.refl hH)
  have HH := Lib.hid hH
  have HL := Lib.hid hL
  clear hH hL
  have e0 : IntKind.i64.wrap ((b : Int) - 1) = (b : Int) - 1 := wr64 (by omega)
  go_enter Try.func54, Try.ntmps54
  go_wp2_with fail
  go_loopw [6, 7] (fun iv jv wr => ∃ (i j : Nat) (dr : Array Int), iv = .int .i64 (i : Int) ∧ jv = .int .i64 (j : Int) ∧ i ≤ L ∧ j < L ∧ Hid (dr.size = L) ∧ Hid (SU w wr blk off dr) ∧ Hid (reverseLoop i j dr = reverseRange d a b)) (fun iv _ _ => L + 1 - (intOf iv).toNat)
  case atStart => exact ⟨a, b - 1, d, rfl, by congr 1; omega, haL, by omega, HL.out, HS0.out, rfl⟩
  case round =>
    clear HS0
    obtain ⟨i, j, dr, rfl, rfl, hi, hj, HD, HS, HE⟩ := hrel
    by_cases hij : i < j
    · have hijI : (i : Int) < (j : Int) := by omega
      obtain ⟨ci, fi⟩ := HS.out.cell HH.out (by rw [HD.out, HL.out]) hb i (by rw [HD.out]; omega)
      obtain ⟨cj, fj⟩ := HS.out.cell HH.out (by rw [HD.out, HL.out]) hb j (by rw [HD.out]; omega)
      have HSW := Lib.hid (HS.out.swp hb i j (by rw [HD.out]; omega) (by rw [HD.out]; omega))
      have HE2 : Hid (reverseLoop (i + 1) (j - 1) (swp dr i j) = reverseRange d a b) := by
        have e : reverseLoop i j dr = reverseLoop (i + 1) (j - 1) (swp dr i j) := by rw [reverseLoop, if_pos hij]
        exact e.symm.trans HE.out
      have hne : ¬ i = j := by omega
      generalize dr[i]! = x at *
      generalize dr[j]! = y at *
      go_wp2_with fail
      go_region
      clear ci fi cj fj
      go_wp2_with fail
      go_roundw
      case rel => exact ⟨i + 1, j - 1, _, by go_num, by congr 1; omega, by omega, by omega, by show _ = _; rw [swp_size]; exact HD.out, HSW.out.drew, HE2.out⟩
      case measure => simp [intOf]; omega
    · have hijI : ¬ (i : Int) < (j : Int) := by omega
      have e : dr = reverseRange d a b := by
        have e2 : reverseLoop i j dr = dr := by rw [reverseLoop, if_neg hij]
        exact e2.symm.trans HE.out
      have HO := HS.out
      rw [e] at HO
      have HO2 := Lib.hid HO
      clear HO e
      go_wp2_with fail
      exact bodyPost_end (results_none rfl _ _ _) rfl ⟨rfl, HO2.out⟩
end Go.Proofs.Yticodfdonpookaa.Su
