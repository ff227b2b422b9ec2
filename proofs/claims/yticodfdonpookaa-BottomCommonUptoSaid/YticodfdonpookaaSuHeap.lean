/- heapSortOrdered[uint64]: it computes the plain one. Condition: indices within the row. -/
import Derived.Test.YticodfdonpookaaSuRev
set_option linter.unusedSimpArgs false
set_option linter.unusedVariables false
set_option maxRecDepth 20000
namespace Go.Proofs.Yticodfdonpookaa.Su
open Go.RowKit Go.Sort
theorem sift_size (lt : Int → Int → Bool) (hi first : Nat) : ∀ (k r : Nat) (d : Array Int), hi - r ≤ k → (siftDown lt hi first r d).size = d.size
  | 0, r, d, h => by rw [sift_end _ _ _ _ _ (by omega)]
  | k + 1, r, d, h => by
    rw [siftDown]
    repeat' split
    all_goals first | rfl | (rw [sift_size lt hi first k _ _ (by omega), swp_size])
set_option maxHeartbeats 3200000 in
theorem heap_any (blk off cap : Nat) (d : Array Int) (L a b : Nat) (w : World) (hH : Holds eu w blk off d) (hb : blk < w.heap.size) (hL : d.size = L) (hbL : b ≤ L) (hab : a < b) (hL2 : L < 4611686018427387904) :
    Calls Try.prog 51 #[.slice (some ⟨blk, off, none⟩) L cap, .int .i64 (a : Int), .int .i64 (b : Int)] w fun e w' => e = .returned (.tuple #[]) ∧ SU w w' blk off (heapSort ltInt d a b) := by
  have HS0 := Lib.hid (SU.refl hH)
  have HH := Lib.hid hH
  have HL := Lib.hid hL
  clear hH hL
  obtain ⟨n, hn⟩ : ∃ n, b - a = n := ⟨_, rfl⟩
  have hnI : (b : Int) - (a : Int) = (n : Int) := by omega
  have w1 : IntKind.i64.wrap (n : Int) = (n : Int) := wr64 (by omega)
  have w2 : IntKind.i64.wrap ((n : Int) - 1) = (n : Int) - 1 := wr64 (by omega)
  have HSI : Hid (∀ (wr : World) (dr : Array Int) (r hi : Nat), SU w wr blk off dr → dr.size = L → r ≤ L → a + hi ≤ L → Calls Try.prog 64 #[.slice (some ⟨blk, off, none⟩) L cap, .int .i64 (r : Int), .int .i64 (hi : Int), .int .i64 (a : Int)] wr fun e w' => e = .returned (.tuple #[]) ∧ SU w w' blk off (siftDown ltInt hi a r dr) ∧ (siftDown ltInt hi a r dr).size = L) := fun wr dr r hi h1 h2 h3 h4 => by
    refine (sift_any blk off cap dr L r hi a wr (h1.holds HH.out (by rw [h2, HL.out]) hb) (Nat.lt_of_lt_of_le hb h1.size) h2 h4 hL2 h3).mono fun e w' ⟨he, hs⟩ => ⟨he, h1.trans hs ?_ hb, ?_⟩
    · exact sift_size _ _ _ _ _ _ (Nat.le_refl _)
    · rw [sift_size _ _ _ _ _ _ (Nat.le_refl _)]; exact h2
  go_enter Try.func51, Try.ntmps51
  go_wp2_with fail
  go_loopw [9] (fun iv wr => ∃ (k : Nat) (dr : Array Int), iv = .int .i64 ((k : Int) - 1) ∧ k ≤ L ∧ Hid (dr.size = L) ∧ Hid (SU w wr blk off dr) ∧ Hid (heapBuild ltInt n a k dr = heapBuild ltInt n a ((n - 1) / 2 + 1) d)) (fun iv _ => (intOf iv + 1).toNat)
  case atStart => exact ⟨(n - 1) / 2 + 1, d, by congr 1; go_num, by omega, HL.out, HS0.out, rfl⟩
  case round =>
    clear HS0
    obtain ⟨k, dr, rfl, hk, HD, HS, HE⟩ := hrel
    cases k with
    | succ k =>
      have e1 : ((k + 1 : Nat) : Int) - 1 = (k : Int) := by omega
      rw [e1]
      have HC := Lib.hid (HSI.out wr dr k n HS.out HD.out (by omega) (by omega))
      have HE2 : Hid (heapBuild ltInt n a k (siftDown ltInt n a k dr) = heapBuild ltInt n a ((n - 1) / 2 + 1) d) := HE.out
      go_wp2_with fail
      refine HC.out.mono ?_
      rintro e w1 ⟨rfl, h1, h2⟩
      have HS1 := Lib.hid h1
      have HD1 := Lib.hid h2
      clear h1 h2 HC
      go_wp2_with fail
      go_roundw
      case rel => exact ⟨k, _, by congr 1, by omega, HD1.out, HS1.out, HE2.out⟩
      case measure => simp [intOf]
    | zero =>
      have e1 : ((0 : Nat) : Int) - 1 = -1 := rfl
      rw [e1]
      have HE2 : Hid (dr = heapBuild ltInt n a ((n - 1) / 2 + 1) d) := HE.out
      go_wp2_with fail
      go_loopw [10] (fun iv wr => ∃ (k : Nat) (dr : Array Int), iv = .int .i64 ((k : Int) - 1) ∧ k ≤ n ∧ Hid (dr.size = L) ∧ Hid (SU w wr blk off dr) ∧ Hid (heapPop ltInt a k dr = heapSort ltInt d a b)) (fun iv _ => (intOf iv + 1).toNat)
      case atStart => exact ⟨n, dr, rfl, Nat.le_refl _, HD.out, HS.out, by show _ = _; rw [heapSort, hn, ← HE2.out]⟩
      case round =>
        clear HS HD HE HE2
        obtain ⟨k, dr, rfl, hk, HD, HS, HE⟩ := hrel
        cases k with
        | succ k =>
          have e1 : ((k + 1 : Nat) : Int) - 1 = (k : Int) := by omega
          rw [e1]
          obtain ⟨f, hf⟩ : ∃ f, a + k = f := ⟨_, rfl⟩
          have hfI : (a : Int) + (k : Int) = (f : Int) := by omega
          have w3 : IntKind.i64.wrap (f : Int) = (f : Int) := wr64 (by omega)
          have HE2 : Hid (heapPop ltInt a k (siftDown ltInt k a 0 (swp dr a f)) = heapSort ltInt d a b) := by rw [← hf]; exact HE.out
          obtain ⟨ca, fa⟩ := HS.out.cell HH.out (by rw [HD.out, HL.out]) hb a (by rw [HD.out]; omega)
          obtain ⟨cf, ff⟩ := HS.out.cell HH.out (by rw [HD.out, HL.out]) hb f (by rw [HD.out]; omega)
          have HSW := Lib.hid (HS.out.swp hb a f (by rw [HD.out]; omega) (by rw [HD.out]; omega))
          generalize dr[a]! = x at *
          generalize dr[f]! = y at *
          have HD2 : Hid ((swp dr a f).size = L) := by show _ = _; rw [swp_size]; exact HD.out
          have HC := Lib.hid (fun W (h : SU w W blk off (swp dr a f)) => HSI.out W (swp dr a f) 0 k h HD2.out (Nat.zero_le _) (by omega))
          go_wp2_with fail
          by_cases hfa : a = f
          · subst hfa
            have e2 : x = y := by rw [ca] at cf; injection cf with h; injection h
            subst e2
            go_region
            clear ca fa cf ff
            go_wp2_with fail
            refine (HC.out _ HSW.out.drew).mono ?_
            rintro e w1 ⟨rfl, h1, h2⟩
            have HS1 := Lib.hid h1
            have HD1 := Lib.hid h2
            clear h1 h2 HC
            go_wp2_with fail
            go_roundw
            case rel => exact ⟨k, _, by congr 1, by omega, HD1.out, HS1.out, HE2.out⟩
            case measure => simp [intOf]
          · have hne : ¬ a = f := hfa
            go_region
            clear ca fa cf ff
            go_wp2_with fail
            refine (HC.out _ HSW.out.drew).mono ?_
            rintro e w1 ⟨rfl, h1, h2⟩
            have HS1 := Lib.hid h1
            have HD1 := Lib.hid h2
            clear h1 h2 HC
            go_wp2_with fail
            go_roundw
            case rel => exact ⟨k, _, by congr 1, by omega, HD1.out, HS1.out, HE2.out⟩
            case measure => simp [intOf]
        | zero =>
          have e1 : ((0 : Nat) : Int) - 1 = -1 := rfl
          rw [e1]
          have e : dr = heapSort ltInt d a b := HE.out
          have HO := HS.out
          rw [e] at HO
          have HO2 := Lib.hid HO
          clear HO e
          go_wp2_with fail
          exact bodyPost_end (results_none rfl _ _ _) rfl ⟨rfl, HO2.out⟩
end Go.Proofs.Yticodfdonpookaa.Su
