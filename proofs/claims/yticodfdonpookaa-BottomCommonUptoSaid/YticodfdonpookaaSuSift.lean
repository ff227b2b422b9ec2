/- siftDownOrdered[uint64]: it computes the plain one. Condition: indices within the row. -/
import Derived.Test.YticodfdonpookaaSuIns
set_option linter.unusedSimpArgs false
set_option linter.unusedVariables false
set_option maxRecDepth 20000
namespace Go.Proofs.Yticodfdonpookaa.Su
open Go.RowKit Go.Sort
theorem wr64 {x : Int} (h : -9223372036854775808 ≤ x ∧ x < 9223372036854775808) : IntKind.i64.wrap x = x := by rw [IntKind.wrap_i64]; omega
theorem sift_end (lt : Int → Int → Bool) (hi first r : Nat) (d : Array Int) (h : hi ≤ 2 * r + 1) : siftDown lt hi first r d = d := by
  rw [siftDown, dif_pos h]
theorem sift_right (lt : Int → Int → Bool) (hi first r : Nat) (d : Array Int) (h : 2 * r + 2 < hi) (hl : lt d[first + (2 * r + 1)]! d[first + (2 * r + 2)]! = true) : siftDown lt hi first r d = if lt d[first + r]! d[first + (2 * r + 2)]! = true then siftDown lt hi first (2 * r + 2) (swp d (first + r) (first + (2 * r + 2))) else d := by
  rw [siftDown, dif_neg (by omega), if_pos (by rw [Bool.and_eq_true]; exact ⟨decide_eq_true (by omega), hl⟩)]
  cases lt d[first + r]! d[first + (2 * r + 2)]! with
  | true => rw [if_neg (by decide), if_pos rfl, dif_pos h]
  | false => rw [if_pos (by decide), if_neg (by decide)]
theorem sift_left (lt : Int → Int → Bool) (hi first r : Nat) (d : Array Int) (h : 2 * r + 1 < hi) (hl : ¬ (2 * r + 2 < hi ∧ lt d[first + (2 * r + 1)]! d[first + (2 * r + 2)]! = true)) : siftDown lt hi first r d = if lt d[first + r]! d[first + (2 * r + 1)]! = true then siftDown lt hi first (2 * r + 1) (swp d (first + r) (first + (2 * r + 1))) else d := by
  rw [siftDown, dif_neg (by omega), if_neg (by rw [Bool.and_eq_true]; rintro ⟨h1, h2⟩; exact hl ⟨by simpa using h1, h2⟩)]
  cases lt d[first + r]! d[first + (2 * r + 1)]! with
  | true => rw [if_neg (by decide), if_pos rfl]
  | false => rw [if_pos (by decide), if_neg (by decide)]
set_option maxHeartbeats 3200000 in
theorem sift_any (blk off cap : Nat) (d : Array Int) (L lo hi first : Nat) (w : World) (hH : Holds eu w blk off d) (hb : blk < w.heap.size) (hL : d.size = L) (hfL : first + hi ≤ L) (hL2 : L < 4611686018427387904) (hlo : lo ≤ L) :
    Calls Try.prog 64 #[.slice (some ⟨blk, off, none⟩) L cap, .int .i64 (lo : Int), .int .i64 (hi : Int), .int .i64 (first : Int)] w fun e w' => e = .returned (.tuple #[]) ∧ SU w w' blk off (siftDown ltInt hi first lo d) := by
  have HS0 := Lib.hid (SU.refl hH)
  have HH := Lib.hid hH
  have HL := Lib.hid hL
  clear hH hL
  go_enter Try.func64, Try.ntmps64
  go_wp2_with fail
  go_loopw [8] (fun iv wr => ∃ (r : Nat) (dr : Array Int), iv = .int .i64 (r : Int) ∧ r ≤ L ∧ Hid (dr.size = L) ∧ Hid (SU w wr blk off dr) ∧ Hid (siftDown ltInt hi first r dr = siftDown ltInt hi first lo d)) (fun iv _ => hi - (intOf iv).toNat)
  case atStart => exact ⟨lo, d, rfl, hlo, HL.out, HS0.out, rfl⟩
  case round =>
    clear HS0
    obtain ⟨r, dr, rfl, hrL, HD, HS, HE⟩ := hrel
    obtain ⟨c, hc⟩ : ∃ c, 2 * r + 1 = c := ⟨_, rfl⟩
    have hcI : 2 * (r : Int) + 1 = (c : Int) := by omega
    have w1 : IntKind.i64.wrap (2 * (r : Int)) = 2 * (r : Int) := wr64 (by omega)
    have w2 : IntKind.i64.wrap (c : Int) = (c : Int) := wr64 (by omega)
    by_cases hend : hi ≤ c
    · have hendI : (hi : Int) ≤ (c : Int) := by omega
      have e : dr = siftDown ltInt hi first lo d := (sift_end ltInt hi first r dr (by omega)).symm.trans HE.out
      have HO := HS.out
      rw [e] at HO
      have HO2 := Lib.hid HO
      clear HO e
      go_wp2_with fail
      exact bodyPost_end (results_none rfl _ _ _) rfl ⟨rfl, HO2.out⟩
    · have hendI : ¬ (hi : Int) ≤ (c : Int) := by omega
      have HC := fun j hj => HS.out.cell HH.out (by rw [HD.out, HL.out]) hb j (by rw [HD.out]; exact hj)
      obtain ⟨fc, hfc⟩ : ∃ fc, first + c = fc := ⟨_, rfl⟩
      have hfcI : (first : Int) + (c : Int) = (fc : Int) := by omega
      obtain ⟨fr, hfr⟩ : ∃ fr, first + r = fr := ⟨_, rfl⟩
      have hfrI : (first : Int) + (r : Int) = (fr : Int) := by omega
      have w3 : IntKind.i64.wrap (fc : Int) = (fc : Int) := wr64 (by omega)
      have w4 : IntKind.i64.wrap (fr : Int) = (fr : Int) := wr64 (by omega)
      have w5 : IntKind.i64.wrap ((c : Int) + 1) = (c : Int) + 1 := wr64 (by omega)
      have w6 : IntKind.i64.wrap ((fc : Int) + 1) = (fc : Int) + 1 := wr64 (by omega)
      obtain ⟨c0, f0⟩ := HC fr (by omega)
      obtain ⟨c1, f1⟩ := HC fc (by omega)
      by_cases h2 : c + 1 < hi
      · have h2I : (c : Int) + 1 < (hi : Int) := by omega
        obtain ⟨c2, f2⟩ := HC (fc + 1) (by omega)
        have h2I2 : decide ((c : Int) + 1 < (hi : Int)) = true := decide_eq_true h2I
        have hfc2 : (first : Int) + ((c : Int) + 1) = (fc : Int) + 1 := by omega
        have HEQ1 : Hid (ltInt dr[fc]! dr[fc + 1]! = true → siftDown ltInt hi first r dr = if ltInt dr[fr]! dr[fc + 1]! = true then siftDown ltInt hi first (c + 1) (swp dr fr (fc + 1)) else dr) := fun hl => by
          have := sift_right ltInt hi first r dr (by omega) (by rw [show first + (2 * r + 1) = fc by omega, show first + (2 * r + 2) = fc + 1 by omega]; exact hl)
          rwa [show first + (2 * r + 2) = fc + 1 by omega, show first + r = fr by omega, show 2 * r + 2 = c + 1 by omega] at this
        have HEQ2 : Hid (ltInt dr[fc]! dr[fc + 1]! = false → siftDown ltInt hi first r dr = if ltInt dr[fr]! dr[fc]! = true then siftDown ltInt hi first c (swp dr fr fc) else dr) := fun hl => by
          have := sift_left ltInt hi first r dr (by omega) (by rw [show first + (2 * r + 1) = fc by omega, show first + (2 * r + 2) = fc + 1 by omega]; rintro ⟨_, h⟩; rw [hl] at h; cases h)
          rwa [show first + (2 * r + 1) = fc by omega, show first + r = fr by omega, show 2 * r + 1 = c by omega] at this
        have HSW1 := Lib.hid (fun W (h : SU w W blk off dr) => h.swp hb fr (fc + 1) (by rw [HD.out]; omega) (by rw [HD.out]; omega))
        have HSW2 := Lib.hid (fun W (h : SU w W blk off dr) => h.swp hb fr fc (by rw [HD.out]; omega) (by rw [HD.out]; omega))
        generalize dr[fr]! = x0 at *
        generalize dr[fc]! = x1 at *
        generalize dr[fc + 1]! = x2 at *
        have HLE : Hid (∀ (W : World) m, Calls Try.prog 56 #[.int .u64 x1, .int .u64 x2] (W.drewN m) fun e w' => e = .returned (.bool (ltInt x1 x2)) ∧ ∃ m', w' = W.drewN m') := fun W m => (less_any x1 x2 _).mono fun e w' ⟨h1, h2⟩ => ⟨h1, m, h2⟩
        clear HC
        cases hl : ltInt x1 x2 with
        | true =>
          have HEQ := Lib.hid (HEQ1.out hl)
          have HSW := HSW1
          rw [hl] at HLE
          clear hl HEQ1 HEQ2 HSW1 HSW2
          go_wp2_with fail
          go_quiet ((go_at_call 56; (with_reducible exact HLE.out _ _)))
          go_wp2_with fail
          have HLF : Hid (∀ (W : World) m, Calls Try.prog 56 #[.int .u64 x0, .int .u64 x2] (W.drewN m) fun e w' => e = .returned (.bool (ltInt x0 x2)) ∧ ∃ m', w' = W.drewN m') := fun W m => (less_any x0 x2 _).mono fun e w' ⟨h1, h2⟩ => ⟨h1, m, h2⟩
          generalize hz : World.drewN _ _ = wz
          have HSz : Hid (SU w wz blk off dr) := by rw [← hz]; exact HS.out.drewN _
          have c0z : wz.cell? ⟨blk, off + fr, none⟩ = some (.int .u64 x0) := by rw [← hz]; exact c0
          have f0z : wz.frozen? ⟨blk, off + fr, none⟩ = false := by rw [← hz]; exact f0
          have c1z : wz.cell? ⟨blk, off + (fc + 1), none⟩ = some (.int .u64 x2) := by rw [← hz]; exact c2
          have f1z : wz.frozen? ⟨blk, off + (fc + 1), none⟩ = false := by rw [← hz]; exact f2
          clear hz
          cases hl2 : ltInt x0 x2 with
          | true =>
            rw [hl2, if_pos rfl] at HEQ
            rw [hl2] at HLF
            clear hl2
            go_quiet ((go_at_call 56; (with_reducible exact HLF.out _ _)))
            go_wp2_with fail
            go_region
            clear c0 f0 c1 f1 c0z c1z f0z f1z
            go_wp2_with fail
            go_roundw
            case rel => exact ⟨c + 1, _, by go_num, by omega, by show _ = _; rw [swp_size]; exact HD.out, ((HSW.out _ HSz.out).drewN _).drew, HEQ.out.symm.trans HE.out⟩
            case measure => simp [intOf]; omega
          | false =>
            rw [hl2, if_neg (by decide)] at HEQ
            rw [hl2] at HLF
            clear hl2
            have e : dr = siftDown ltInt hi first lo d := HEQ.out.symm.trans HE.out
            have HO := HSz.out
            rw [e] at HO
            have HO2 := Lib.hid HO
            clear HO e
            go_quiet ((go_at_call 56; (with_reducible exact HLF.out _ _)))
            go_wp2_with fail
            exact bodyPost_ret (results_none rfl _ _ _) rfl ⟨rfl, HO2.out.drewN _⟩
        | false =>
          have HEQ := Lib.hid (HEQ2.out hl)
          have HSW := HSW2
          rw [hl] at HLE
          clear hl HEQ1 HEQ2 HSW1 HSW2
          go_wp2_with fail
          go_quiet ((go_at_call 56; (with_reducible exact HLE.out _ _)))
          go_wp2_with fail
          have HLF : Hid (∀ (W : World) m, Calls Try.prog 56 #[.int .u64 x0, .int .u64 x1] (W.drewN m) fun e w' => e = .returned (.bool (ltInt x0 x1)) ∧ ∃ m', w' = W.drewN m') := fun W m => (less_any x0 x1 _).mono fun e w' ⟨h1, h2⟩ => ⟨h1, m, h2⟩
          generalize hz : World.drewN _ _ = wz
          have HSz : Hid (SU w wz blk off dr) := by rw [← hz]; exact HS.out.drewN _
          have c0z : wz.cell? ⟨blk, off + fr, none⟩ = some (.int .u64 x0) := by rw [← hz]; exact c0
          have f0z : wz.frozen? ⟨blk, off + fr, none⟩ = false := by rw [← hz]; exact f0
          have c1z : wz.cell? ⟨blk, off + (fc), none⟩ = some (.int .u64 x1) := by rw [← hz]; exact c1
          have f1z : wz.frozen? ⟨blk, off + (fc), none⟩ = false := by rw [← hz]; exact f1
          clear hz
          cases hl2 : ltInt x0 x1 with
          | true =>
            rw [hl2, if_pos rfl] at HEQ
            rw [hl2] at HLF
            clear hl2
            go_quiet ((go_at_call 56; (with_reducible exact HLF.out _ _)))
            go_wp2_with fail
            go_region
            clear c0 f0 c1 f1 c0z c1z f0z f1z
            go_wp2_with fail
            go_roundw
            case rel => exact ⟨c, _, by go_num, by omega, by show _ = _; rw [swp_size]; exact HD.out, ((HSW.out _ HSz.out).drewN _).drew, HEQ.out.symm.trans HE.out⟩
            case measure => simp [intOf]; omega
          | false =>
            rw [hl2, if_neg (by decide)] at HEQ
            rw [hl2] at HLF
            clear hl2
            have e : dr = siftDown ltInt hi first lo d := HEQ.out.symm.trans HE.out
            have HO := HSz.out
            rw [e] at HO
            have HO2 := Lib.hid HO
            clear HO e
            go_quiet ((go_at_call 56; (with_reducible exact HLF.out _ _)))
            go_wp2_with fail
            exact bodyPost_ret (results_none rfl _ _ _) rfl ⟨rfl, HO2.out.drewN _⟩
      · have h2I : ¬ (c : Int) + 1 < (hi : Int) := by omega
        have h2I2 : decide ((c : Int) + 1 < (hi : Int)) = false := decide_eq_false h2I
        have HEQ : Hid (siftDown ltInt hi first r dr = if ltInt dr[fr]! dr[fc]! = true then siftDown ltInt hi first c (swp dr fr fc) else dr) := by
          have := sift_left ltInt hi first r dr (by omega) (by rintro ⟨h, _⟩; omega)
          rwa [show first + (2 * r + 1) = fc by omega, show first + r = fr by omega, show 2 * r + 1 = c by omega] at this
        have HSW := Lib.hid (fun W (h : SU w W blk off dr) => h.swp hb fr fc (by rw [HD.out]; omega) (by rw [HD.out]; omega))
        generalize dr[fr]! = x0 at *
        generalize dr[fc]! = x1 at *
        clear HC
        go_wp2_with fail
        go_quiet (fail)
        go_wp2_with fail
        have HLF : Hid (∀ (W : World) m, Calls Try.prog 56 #[.int .u64 x0, .int .u64 x1] (W.drewN m) fun e w' => e = .returned (.bool (ltInt x0 x1)) ∧ ∃ m', w' = W.drewN m') := fun W m => (less_any x0 x1 _).mono fun e w' ⟨h1, h2⟩ => ⟨h1, m, h2⟩
        generalize hz : World.drewN _ _ = wz
        have HSz : Hid (SU w wz blk off dr) := by rw [← hz]; exact HS.out.drewN _
        have c0z : wz.cell? ⟨blk, off + fr, none⟩ = some (.int .u64 x0) := by rw [← hz]; exact c0
        have f0z : wz.frozen? ⟨blk, off + fr, none⟩ = false := by rw [← hz]; exact f0
        have c1z : wz.cell? ⟨blk, off + (fc), none⟩ = some (.int .u64 x1) := by rw [← hz]; exact c1
        have f1z : wz.frozen? ⟨blk, off + (fc), none⟩ = false := by rw [← hz]; exact f1
        clear hz
        cases hl2 : ltInt x0 x1 with
        | true =>
          rw [hl2, if_pos rfl] at HEQ
          rw [hl2] at HLF
          clear hl2
          go_quiet ((go_at_call 56; (with_reducible exact HLF.out _ _)))
          go_wp2_with fail
          go_region
          clear c0 f0 c1 f1 c0z c1z f0z f1z
          go_wp2_with fail
          go_roundw
          case rel => exact ⟨c, _, by go_num, by omega, by show _ = _; rw [swp_size]; exact HD.out, ((HSW.out _ HSz.out).drewN _).drew, HEQ.out.symm.trans HE.out⟩
          case measure => simp [intOf]; omega
        | false =>
          rw [hl2, if_neg (by decide)] at HEQ
          rw [hl2] at HLF
          clear hl2
          have e : dr = siftDown ltInt hi first lo d := HEQ.out.symm.trans HE.out
          have HO := HSz.out
          rw [e] at HO
          have HO2 := Lib.hid HO
          clear HO e
          go_quiet ((go_at_call 56; (with_reducible exact HLF.out _ _)))
          go_wp2_with fail
          exact bodyPost_ret (results_none rfl _ _ _) rfl ⟨rfl, HO2.out.drewN _⟩
end Go.Proofs.Yticodfdonpookaa.Su
