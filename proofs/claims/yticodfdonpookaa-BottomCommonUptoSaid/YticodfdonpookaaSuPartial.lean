/- partialInsertionSortOrdered[uint64]: it computes the plain one. Condition: indices within the row. (Printed by mkpartial.py.) -/
import Derived.Test.YticodfdonpookaaSuHeap
import Derived.Deep.DeepCutAuto
import Derived.Deep.CutBlock
set_option linter.unusedSimpArgs false
set_option linter.unusedVariables false
set_option maxRecDepth 20000
namespace Go.Proofs.Yticodfdonpookaa.Su
open Go.RowKit Go.Sort
theorem sc_go (lt : Int → Int → Bool) (d : Array Int) (b i : Nat) (h : i < b) (hl : lt d[i]! d[i - 1]! = false) : scanSorted lt d b i = scanSorted lt d b (i + 1) := by
  rw [scanSorted, hl, Bool.not_false, Bool.and_true, if_pos (decide_eq_true h)]
theorem sc_end (lt : Int → Int → Bool) (d : Array Int) (b i : Nat) (h : ¬ i < b ∨ lt d[i]! d[i - 1]! = true) : scanSorted lt d b i = i := by
  rw [scanSorted]
  rcases h with h | h
  · rw [decide_eq_false h, Bool.false_and]; rfl
  · rw [h, Bool.not_true, Bool.and_false]; rfl
theorem su_go (lt : Int → Int → Bool) (d : Array Int) (b j : Nat) (h : j < b) (hl : lt d[j]! d[j - 1]! = true) : shiftUp lt b j d = shiftUp lt b (j + 1) (swp d j (j - 1)) := by
  rw [shiftUp, if_pos h, hl, Bool.not_true, if_neg (by decide)]
theorem su_end (lt : Int → Int → Bool) (d : Array Int) (b j : Nat) (h : ¬ j < b ∨ lt d[j]! d[j - 1]! = false) : shiftUp lt b j d = d := by
  rw [shiftUp]
  rcases h with h | h
  · rw [if_neg h]
  · rw [h, Bool.not_false, if_pos rfl]; split <;> rfl
theorem sd_go (lt : Int → Int → Bool) (d : Array Int) (j : Nat) (hl : lt d[j + 1]! d[j]! = true) : shiftDown lt (j + 1) d = shiftDown lt j (swp d (j + 1) j) := by
  rw [shiftDown, hl, Bool.not_true, if_neg (by decide)]
theorem sd_end (lt : Int → Int → Bool) (d : Array Int) (j : Nat) (hl : lt d[j + 1]! d[j]! = false) : shiftDown lt (j + 1) d = d := by
  rw [shiftDown, hl, Bool.not_false, if_pos rfl]
theorem par_step (lt : Int → Int → Bool) (a b k i i2 : Nat) (d : Array Int) (h : scanSorted lt d b i = i2) : partialIns lt a b (k + 1) i d = if i2 = b then (d, true) else if b - a < 50 then (d, false) else partialIns lt a b k i2 (if b - i2 ≥ 2 then shiftUp lt b (i2 + 1) (if i2 - a ≥ 2 then shiftDown lt (i2 - 1) (swp d i2 (i2 - 1)) else swp d i2 (i2 - 1)) else (if i2 - a ≥ 2 then shiftDown lt (i2 - 1) (swp d i2 (i2 - 1)) else swp d i2 (i2 - 1))) := by
  subst h
  rw [partialIns]
set_option maxHeartbeats 6400000 in
theorem partial_any (blk off cap : Nat) (d : Array Int) (L a b : Nat) (w : World) (hH : Holds eu w blk off d) (hb : blk < w.heap.size) (hL : d.size = L) (hbL : b ≤ L) (hab : a < b) (hL2 : L < 4611686018427387904) :
    Calls Try.prog 55 #[.slice (some ⟨blk, off, none⟩) L cap, .int .i64 (a : Int), .int .i64 (b : Int)] w fun e w' => e = .returned (.bool (partialInsertionSort ltInt d a b).2) ∧ SU w w' blk off (partialInsertionSort ltInt d a b).1 := by
  have HS0 := Lib.hid (SU.refl hH)
  have HH := Lib.hid hH
  have HL := Lib.hid hL
  clear hH hL
  obtain ⟨n, hn⟩ : ∃ n, b - a = n := ⟨_, rfl⟩
  have hnI : (b : Int) - (a : Int) = (n : Int) := by omega
  have wn : IntKind.i64.wrap (n : Int) = (n : Int) := wr64 (by omega)
  have w1 : IntKind.i64.wrap ((a : Int) + 1) = (a : Int) + 1 := wr64 (by omega)
  have HR : Hid (partialInsertionSort ltInt d a b = partialIns ltInt a b 5 (a + 1) d) := rfl
  generalize partialInsertionSort ltInt d a b = R at *
  go_enter Try.func55, Try.ntmps55
  go_wp2_with fail
  go_loopw [7, 8] (fun iv kv wr => ∃ (i k : Nat) (dr : Array Int), iv = .int .i64 (i : Int) ∧ kv = .int .i64 (5 - (k : Int)) ∧ a < i ∧ i ≤ b ∧ k ≤ 5 ∧ Hid (dr.size = L) ∧ Hid (SU w wr blk off dr) ∧ Hid (R = partialIns ltInt a b k i dr)) (fun _ kv _ => (5 - intOf kv).toNat)
  case atStart => exact ⟨a + 1, 5, d, by go_num, rfl, by omega, by omega, by omega, HL.out, HS0.out, HR.out⟩
  case round =>
    clear HS0 HR
    obtain ⟨i, k, dr, rfl, rfl, hi, hib, hk, HD, HS, HE⟩ := hrel
    obtain ⟨wo, rfl⟩ : ∃ wo : World, wo = wr := ⟨_, rfl⟩
    cases k with
    | zero =>
      have e5 : (5 : Int) - ((0 : Nat) : Int) = 5 := by omega
      rw [e5]
      have HE2 : Hid (R = (dr, false)) := HE.out
      go_wp2_with fail
      go_ret
      rw [HE2.out]
      exact ⟨rfl, HS.out⟩
    | succ k =>
      have e5 : (5 : Int) - ((k + 1 : Nat) : Int) = 4 - (k : Int) := by omega
      rw [e5]
      have h45 : 4 - (k : Int) < 5 := by omega
      have w4 : IntKind.i64.wrap (4 - (k : Int) + 1) = 4 - (k : Int) + 1 := wr64 (by omega)
      go_upto_block 2 with (fail)
      go_cut [7] (fun iv wx => ∃ i2 : Nat, iv = .int .i64 (i2 : Int) ∧ i ≤ i2 ∧ i2 ≤ b ∧ Hid (SU w wx blk off dr) ∧ Hid (scanSorted ltInt dr b i = i2))
      case first =>
        go_wp2_with fail
        go_loopw [7] (fun iv wr => ∃ i2 : Nat, iv = .int .i64 (i2 : Int) ∧ i ≤ i2 ∧ i2 ≤ b ∧ Hid (SU w wr blk off dr) ∧ Hid (scanSorted ltInt dr b i2 = scanSorted ltInt dr b i)) (fun iv _ => b - (intOf iv).toNat)
        case atStart => exact ⟨i, rfl, Nat.le_refl _, hib, HS.out, rfl⟩
        case round =>
          obtain ⟨i2, rfl, hb1, hb2, HS2, HE2⟩ := hrel
          by_cases hle : i2 < b
          · have hleI : (i2 : Int) < (b : Int) := by omega
            have p1 : decide ((i2 : Int) < (b : Int)) = true := decide_eq_true hleI
            obtain ⟨q, hq⟩ : ∃ q, i2 - 1 = q := ⟨_, rfl⟩
            have hqI : (i2 : Int) - 1 = (q : Int) := by omega
            have wq : IntKind.i64.wrap (q : Int) = (q : Int) := wr64 (by omega)
            have HGO := sc_go ltInt dr b i2 hle
            have HND := sc_end ltInt dr b i2
            rw [hq] at HGO HND
            have HGO := Lib.hid HGO
            have HND := Lib.hid HND
            obtain ⟨ci, fi⟩ := HS2.out.cell HH.out (by rw [HD.out, HL.out]) hb i2 (by rw [HD.out]; omega)
            obtain ⟨cj, fj⟩ := HS2.out.cell HH.out (by rw [HD.out, HL.out]) hb q (by rw [HD.out]; omega)
            have HSWW := Lib.hid (fun W (h : SU w W blk off dr) => h.swp hb i2 q (by rw [HD.out]; omega) (by rw [HD.out]; omega))
            obtain ⟨x, hx⟩ : ∃ x, dr[i2]! = x := ⟨_, rfl⟩
            obtain ⟨y, hy⟩ : ∃ y, dr[q]! = y := ⟨_, rfl⟩
            rw [hx, hy] at HSWW
            rw [hx] at ci
            rw [hy] at cj
            have hx := Lib.hid hx
            have hy := Lib.hid hy
            have HLF : Hid (∀ (W : World) m, Calls Try.prog 56 #[.int .u64 x, .int .u64 y] (W.drewN m) fun e w' => e = .returned (.bool (ltInt x y)) ∧ ∃ m', w' = W.drewN m') := fun W m => (less_any x y _).mono fun e w' ⟨h1, h2⟩ => ⟨h1, m, h2⟩
            cases hl : ltInt x y with
            | true =>
              have HNX : Hid (scanSorted ltInt dr b i = i2) := HE2.out.symm.trans (HND.out (Or.inr (by rw [hx.out, hy.out]; exact hl)))
              rw [hl] at HLF
              clear hl
              go_wp2_with fail
              go_quiet ((go_at_call 56; (with_reducible exact HLF.out _ _)))
              go_wp2_with fail
              go_meet
              exact ⟨i2, rfl, by omega, by omega, HS2.out.drewN _, HNX.out⟩
            | false =>
              have HNX : Hid (scanSorted ltInt dr b (i2 + 1) = scanSorted ltInt dr b i) := (HGO.out (by rw [hx.out, hy.out]; exact hl)).symm.trans HE2.out
              rw [hl] at HLF
              clear hl
              go_wp2_with fail
              go_quiet ((go_at_call 56; (with_reducible exact HLF.out _ _)))
              go_wp2_with fail
              go_roundw
              case rel => exact ⟨i2 + 1, by go_num, by omega, by omega, HS2.out.drewN _, HNX.out⟩
              case measure => simp [intOf]; omega
          · have hleI : ¬ (i2 : Int) < (b : Int) := by omega
            have p1 : decide ((i2 : Int) < (b : Int)) = false := decide_eq_false hleI
            have HNX : Hid (scanSorted ltInt dr b i = i2) := HE2.out.symm.trans (sc_end ltInt dr b i2 (Or.inl hle))
            go_wp2_with fail
            go_quiet (fail)
            go_wp2_with fail
            go_meet
            exact ⟨i2, rfl, by omega, by omega, HS2.out.drewN _, HNX.out⟩
      case rest =>
        obtain ⟨i2, rfl, hi2, hi2b, HSA, HEI⟩ := hcut
        clear HS
        obtain ⟨wp, rfl⟩ : ∃ wp : World, wp = wc := ⟨_, rfl⟩
        have HST := par_step ltInt a b k i i2 dr HEI.out
        rw [← HE.out] at HST
        clear HE
        by_cases hend : i2 = b
        · rw [if_pos hend] at HST
          have HST := Lib.hid HST
          subst hend
          go_wp2_with fail
          go_ret
          rw [HST.out]
          exact ⟨rfl, HSA.out⟩
        · rw [if_neg hend] at HST
          have hendI : ¬ (i2 : Int) = (b : Int) := by omega
          have hendB : ((i2 : Int) == (b : Int)) = false := beq_eq_false_iff_ne.mpr hendI
          by_cases h50 : n < 50
          · rw [if_pos (by omega)] at HST
            have HST := Lib.hid HST
            have h50I : (n : Int) < 50 := by omega
            go_wp2_with fail
            go_ret
            rw [HST.out]
            exact ⟨rfl, HSA.out⟩
          · rw [if_neg (by omega)] at HST
            have h50I : ¬ (n : Int) < 50 := by omega
            obtain ⟨q, hq⟩ : ∃ q, i2 - 1 = q := ⟨_, rfl⟩
            have hqI : (i2 : Int) - 1 = (q : Int) := by omega
            have wq : IntKind.i64.wrap (q : Int) = (q : Int) := wr64 (by omega)
            have hne : ¬ i2 = q := by omega
            obtain ⟨m, hm⟩ : ∃ m, i2 - a = m := ⟨_, rfl⟩
            have hmI : (i2 : Int) - (a : Int) = (m : Int) := by omega
            have wm : IntKind.i64.wrap (m : Int) = (m : Int) := wr64 (by omega)
            obtain ⟨l, hl⟩ : ∃ l, b - i2 = l := ⟨_, rfl⟩
            have hlI : (b : Int) - (i2 : Int) = (l : Int) := by omega
            have wl : IntKind.i64.wrap (l : Int) = (l : Int) := wr64 (by omega)
            have wi : IntKind.i64.wrap ((i2 : Int) + 1) = (i2 : Int) + 1 := wr64 (by omega)
            rw [hq, hm, hl] at HST
            have HST := Lib.hid HST
            obtain ⟨ci, fi⟩ := HSA.out.cell HH.out (by rw [HD.out, HL.out]) hb i2 (by rw [HD.out]; omega)
            obtain ⟨cj, fj⟩ := HSA.out.cell HH.out (by rw [HD.out, HL.out]) hb q (by rw [HD.out]; omega)
            have HSWW := Lib.hid (fun W (h : SU w W blk off dr) => h.swp hb i2 q (by rw [HD.out]; omega) (by rw [HD.out]; omega))
            obtain ⟨x, hx⟩ : ∃ x, dr[i2]! = x := ⟨_, rfl⟩
            obtain ⟨y, hy⟩ : ∃ y, dr[q]! = y := ⟨_, rfl⟩
            rw [hx, hy] at HSWW
            rw [hx] at ci
            rw [hy] at cj
            have hx := Lib.hid hx
            have hy := Lib.hid hy
            have HLF : Hid (∀ (W : World) m, Calls Try.prog 56 #[.int .u64 x, .int .u64 y] (W.drewN m) fun e w' => e = .returned (.bool (ltInt x y)) ∧ ∃ m', w' = W.drewN m') := fun W m => (less_any x y _).mono fun e w' ⟨h1, h2⟩ => ⟨h1, m, h2⟩
            have HD1 : Hid ((swp dr i2 q).size = L) := by show _ = _; rw [swp_size]; exact HD.out
            have HSW := Lib.hid (HSWW.out _ HSA.out)
            clear HSWW HLF hx hy HSA HEI HD
            generalize swp dr i2 q = d1 at *
            go_upto_region 11 with (fail)
            go_wp2_with fail
            go_region
            clear ci fi cj fj
            generalize hz : World.drew _ = wz
            have HSz : Hid (SU w wz blk off d1) := by rw [← hz]; exact HSW.out.drew
            clear hz HSW
            go_upto_if 61 with (fail)
            go_cut [] (fun wx => ∃ d2 : Array Int, Hid (d2.size = L) ∧ Hid (SU w wx blk off d2) ∧ Hid ((if m ≥ 2 then shiftDown ltInt q d1 else d1) = d2))
            case first =>
              by_cases hm2 : 2 ≤ m
              · have hm2I : (2 : Int) ≤ (m : Int) := by omega
                have HIF : Hid ((if m ≥ 2 then shiftDown ltInt q d1 else d1) = shiftDown ltInt q d1) := if_pos hm2
                go_wp2_with fail
                go_loopw [9] (fun jv wr => ∃ (j : Nat) (dj : Array Int), jv = .int .i64 (j : Int) ∧ j ≤ q ∧ Hid (dj.size = L) ∧ Hid (SU w wr blk off dj) ∧ Hid (shiftDown ltInt j dj = shiftDown ltInt q d1)) (fun jv _ => (intOf jv).toNat)
                case atStart => exact ⟨q, d1, rfl, Nat.le_refl _, HD1.out, HSz.out, rfl⟩
                case round =>
                  clear HSz
                  obtain ⟨j, dj, rfl, hj, HDJ, HSJ, HEJ⟩ := hrel
                  cases j with
                  | zero =>
                    have HEND : Hid (shiftDown ltInt q d1 = dj) := HEJ.out.symm
                    have z0 : ((0 : Nat) : Int) = 0 := rfl
                    rw [z0]
                    go_wp2_with fail
                    go_meet
                    exact ⟨dj, HDJ.out, HSJ.out, HIF.out.trans HEND.out⟩
                  | succ j =>
                    obtain ⟨j1, hj1⟩ : ∃ j1, j + 1 = j1 := ⟨_, rfl⟩
                    have HGO := Lib.hid (sd_go ltInt dj j)
                    have HND := Lib.hid (sd_end ltInt dj j)
                    rw [hj1] at HGO HND HEJ ⊢
                    have hj1I : (j1 : Int) - 1 = (j : Int) := by omega
                    have hj1p : (1 : Int) ≤ (j1 : Int) := by omega
                    have wj : IntKind.i64.wrap (j : Int) = (j : Int) := wr64 (by omega)
                    have hne2 : ¬ j1 = j := by omega
                    obtain ⟨ci, fi⟩ := HSJ.out.cell HH.out (by rw [HDJ.out, HL.out]) hb j1 (by rw [HDJ.out]; omega)
                    obtain ⟨cj, fj⟩ := HSJ.out.cell HH.out (by rw [HDJ.out, HL.out]) hb j (by rw [HDJ.out]; omega)
                    have HSWW := Lib.hid (fun W (h : SU w W blk off dj) => h.swp hb j1 j (by rw [HDJ.out]; omega) (by rw [HDJ.out]; omega))
                    obtain ⟨x2, hx⟩ : ∃ x, dj[j1]! = x := ⟨_, rfl⟩
                    obtain ⟨y2, hy⟩ : ∃ y, dj[j]! = y := ⟨_, rfl⟩
                    rw [hx, hy] at HSWW
                    rw [hx] at ci
                    rw [hy] at cj
                    have hx := Lib.hid hx
                    have hy := Lib.hid hy
                    have HLF : Hid (∀ (W : World) m, Calls Try.prog 56 #[.int .u64 x2, .int .u64 y2] (W.drewN m) fun e w' => e = .returned (.bool (ltInt x2 y2)) ∧ ∃ m', w' = W.drewN m') := fun W m => (less_any x2 y2 _).mono fun e w' ⟨h1, h2⟩ => ⟨h1, m, h2⟩
                    cases hl : ltInt x2 y2 with
                    | true =>
                      have HNX : Hid (shiftDown ltInt j (swp dj j1 j) = shiftDown ltInt q d1) := (HGO.out (by rw [hx.out, hy.out]; exact hl)).symm.trans HEJ.out
                      rw [hl] at HLF
                      clear hl
                      go_wp2_with fail
                      go_quiet ((go_at_call 56; (with_reducible exact HLF.out _ _)))
                      go_wp2_with fail
                      generalize hz : World.drewN _ _ = wz2
                      have HSz2 : Hid (SU w wz2 blk off dj) := by rw [← hz]; exact HSJ.out.drewN _
                      have ciz : wz2.cell? ⟨blk, off + j1, none⟩ = some (.int .u64 x2) := by rw [← hz]; exact ci
                      have fiz : wz2.frozen? ⟨blk, off + j1, none⟩ = false := by rw [← hz]; exact fi
                      have cjz : wz2.cell? ⟨blk, off + j, none⟩ = some (.int .u64 y2) := by rw [← hz]; exact cj
                      have fjz : wz2.frozen? ⟨blk, off + j, none⟩ = false := by rw [← hz]; exact fj
                      have HSW2 := Lib.hid (HSWW.out _ HSz2.out)
                      clear hz ci fi cj fj
                      go_region
                      clear ciz fiz cjz fjz
                      go_wp2_with fail
                      go_roundw
                      case rel => exact ⟨j, _, by go_num, by omega, by show _ = _; rw [swp_size]; exact HDJ.out, HSW2.out.drew, HNX.out⟩
                      case measure => simp [intOf]; omega
                    | false =>
                      have HNX : Hid (shiftDown ltInt q d1 = dj) := HEJ.out.symm.trans (HND.out (by rw [hx.out, hy.out]; exact hl))
                      rw [hl] at HLF
                      clear hl
                      go_wp2_with fail
                      go_quiet ((go_at_call 56; (with_reducible exact HLF.out _ _)))
                      go_wp2_with fail
                      go_meet
                      exact ⟨dj, HDJ.out, HSJ.out.drewN _, HIF.out.trans HNX.out⟩
              · have hm2I : ¬ (2 : Int) ≤ (m : Int) := by omega
                have HIF : Hid ((if m ≥ 2 then shiftDown ltInt q d1 else d1) = d1) := if_neg hm2
                go_wp2_with fail
                go_meet
                exact ⟨d1, HD1.out, HSz.out, HIF.out⟩
            case rest =>
              obtain ⟨d2, HD2, HS2, HE2⟩ := hcut
              clear HSz HD1
              rw [HE2.out] at HST
              obtain ⟨wq2, rfl⟩ : ∃ wq : World, wq = wc := ⟨_, rfl⟩
              by_cases hl2 : 2 ≤ l
              · have hl2I : (2 : Int) ≤ (l : Int) := by omega
                have HIF : Hid ((if l ≥ 2 then shiftUp ltInt b (i2 + 1) d2 else d2) = shiftUp ltInt b (i2 + 1) d2) := if_pos hl2
                go_wp2_with fail
                go_loopw [10] (fun jv wr => ∃ (j : Nat) (dj : Array Int), jv = .int .i64 (j : Int) ∧ i2 < j ∧ j ≤ b ∧ Hid (dj.size = L) ∧ Hid (SU w wr blk off dj) ∧ Hid (shiftUp ltInt b j dj = shiftUp ltInt b (i2 + 1) d2)) (fun jv _ => b - (intOf jv).toNat)
                case atStart => exact ⟨i2 + 1, d2, by go_num, by omega, by omega, HD2.out, HS2.out, rfl⟩
                case round =>
                  clear HS2
                  obtain ⟨j1, dj, rfl, hj, hjb, HDJ, HSJ, HEJ⟩ := hrel
                  by_cases hjb2 : j1 < b
                  · have hjb2I : (j1 : Int) < (b : Int) := by omega
                    obtain ⟨j, hjq⟩ : ∃ j, j1 - 1 = j := ⟨_, rfl⟩
                    have HGO := sc_go ltInt
                    have HGO := Lib.hid (su_go ltInt dj b j1 hjb2)
                    have HND := Lib.hid (su_end ltInt dj b j1)
                    rw [hjq] at HGO HND
                    have hj1I : (j1 : Int) - 1 = (j : Int) := by omega
                    have wj : IntKind.i64.wrap (j : Int) = (j : Int) := wr64 (by omega)
                    have wj1 : IntKind.i64.wrap ((j1 : Int) + 1) = (j1 : Int) + 1 := wr64 (by omega)
                    have hne2 : ¬ j1 = j := by omega
                    obtain ⟨ci, fi⟩ := HSJ.out.cell HH.out (by rw [HDJ.out, HL.out]) hb j1 (by rw [HDJ.out]; omega)
                    obtain ⟨cj, fj⟩ := HSJ.out.cell HH.out (by rw [HDJ.out, HL.out]) hb j (by rw [HDJ.out]; omega)
                    have HSWW := Lib.hid (fun W (h : SU w W blk off dj) => h.swp hb j1 j (by rw [HDJ.out]; omega) (by rw [HDJ.out]; omega))
                    obtain ⟨x2, hx⟩ : ∃ x, dj[j1]! = x := ⟨_, rfl⟩
                    obtain ⟨y2, hy⟩ : ∃ y, dj[j]! = y := ⟨_, rfl⟩
                    rw [hx, hy] at HSWW
                    rw [hx] at ci
                    rw [hy] at cj
                    have hx := Lib.hid hx
                    have hy := Lib.hid hy
                    have HLF : Hid (∀ (W : World) m, Calls Try.prog 56 #[.int .u64 x2, .int .u64 y2] (W.drewN m) fun e w' => e = .returned (.bool (ltInt x2 y2)) ∧ ∃ m', w' = W.drewN m') := fun W m => (less_any x2 y2 _).mono fun e w' ⟨h1, h2⟩ => ⟨h1, m, h2⟩
                    cases hl : ltInt x2 y2 with
                    | true =>
                      have HNX : Hid (shiftUp ltInt b (j1 + 1) (swp dj j1 j) = shiftUp ltInt b (i2 + 1) d2) := (HGO.out (by rw [hx.out, hy.out]; exact hl)).symm.trans HEJ.out
                      rw [hl] at HLF
                      clear hl
                      go_wp2_with fail
                      go_quiet ((go_at_call 56; (with_reducible exact HLF.out _ _)))
                      go_wp2_with fail
                      generalize hz : World.drewN _ _ = wz2
                      have HSz2 : Hid (SU w wz2 blk off dj) := by rw [← hz]; exact HSJ.out.drewN _
                      have ciz : wz2.cell? ⟨blk, off + j1, none⟩ = some (.int .u64 x2) := by rw [← hz]; exact ci
                      have fiz : wz2.frozen? ⟨blk, off + j1, none⟩ = false := by rw [← hz]; exact fi
                      have cjz : wz2.cell? ⟨blk, off + j, none⟩ = some (.int .u64 y2) := by rw [← hz]; exact cj
                      have fjz : wz2.frozen? ⟨blk, off + j, none⟩ = false := by rw [← hz]; exact fj
                      have HSW2 := Lib.hid (HSWW.out _ HSz2.out)
                      clear hz ci fi cj fj
                      go_region
                      clear ciz fiz cjz fjz
                      go_wp2_with fail
                      go_roundw
                      case rel => exact ⟨j1 + 1, _, by go_num, by omega, by omega, by show _ = _; rw [swp_size]; exact HDJ.out, HSW2.out.drew, HNX.out⟩
                      case measure => simp [intOf]; omega
                    | false =>
                      have HNX : Hid (shiftUp ltInt b (i2 + 1) d2 = dj) := HEJ.out.symm.trans (HND.out (Or.inr (by rw [hx.out, hy.out]; exact hl)))
                      rw [hl] at HLF
                      clear hl
                      go_wp2_with fail
                      go_quiet ((go_at_call 56; (with_reducible exact HLF.out _ _)))
                      go_wp2_with fail
                      exact ⟨⟨i2, k, dj, rfl, by congr 1; omega, by omega, by omega, by omega, HDJ.out, HSJ.out.drewN _, by show _ = _; rw [HST.out, HIF.out, HNX.out]⟩, by simp [intOf]; omega⟩
                  · have hjb2I : ¬ (j1 : Int) < (b : Int) := by omega
                    have HNX : Hid (shiftUp ltInt b (i2 + 1) d2 = dj) := HEJ.out.symm.trans (su_end ltInt dj b j1 (Or.inl hjb2))
                    go_wp2_with fail
                    exact ⟨⟨i2, k, dj, rfl, by congr 1; omega, by omega, by omega, by omega, HDJ.out, HSJ.out, by show _ = _; rw [HST.out, HIF.out, HNX.out]⟩, by simp [intOf]; omega⟩
              · have hl2I : ¬ (2 : Int) ≤ (l : Int) := by omega
                have HIF : Hid ((if l ≥ 2 then shiftUp ltInt b (i2 + 1) d2 else d2) = d2) := if_neg hl2
                go_wp2_with fail
                go_roundw
                case rel => exact ⟨i2, k, d2, rfl, by congr 1; omega, by omega, by omega, by omega, HD2.out, HS2.out, by show _ = _; rw [HST.out, HIF.out]⟩
                case measure => simp [intOf]; omega
end Go.Proofs.Yticodfdonpookaa.Su
