/- partitionEqualOrdered, partitionOrdered[uint64]: they compute the plain ones. Condition: indices within the row. (Printed by mkpart.py.) -/
import Derived.Test.YticodfdonpookaaSuHeap
import Derived.Deep.DeepCutAuto
import Derived.Deep.CutBlock
set_option linter.unusedSimpArgs false
set_option linter.unusedVariables false
set_option maxRecDepth 20000
namespace Go.Proofs.Yticodfdonpookaa.Su
open Go.RowKit Go.Sort
theorem up_go (p : Int → Bool) (d : Array Int) (j i : Nat) (h : i ≤ j) (hp : p d[i]! = true) : scanUp p d j i = scanUp p d j (i + 1) := by
  rw [scanUp, hp, Bool.and_true, if_pos (decide_eq_true h)]
theorem up_end (p : Int → Bool) (d : Array Int) (j i : Nat) (h : ¬ i ≤ j ∨ p d[i]! = false) : scanUp p d j i = i := by
  rw [scanUp]
  rcases h with h | h
  · rw [decide_eq_false h, Bool.false_and]; rfl
  · rw [h, Bool.and_false]; rfl
theorem dn_go (p : Int → Bool) (d : Array Int) (i j : Nat) (h : i ≤ j) (h0 : 1 ≤ j) (hp : p d[j]! = true) : scanDown p d i j = scanDown p d i (j - 1) := by
  cases j with
  | zero => omega
  | succ k => rw [scanDown, hp, Bool.and_true, if_pos (decide_eq_true h)]; rfl
theorem dn_end (p : Int → Bool) (d : Array Int) (i j : Nat) (h : ¬ i ≤ j ∨ p d[j]! = false) : scanDown p d i j = j := by
  cases j with
  | zero => rfl
  | succ k =>
    rw [scanDown]
    rcases h with h | h
    · rw [decide_eq_false h, Bool.false_and]; rfl
    · rw [h, Bool.and_false]; rfl
/-- Two scans that stop do not stop at one place. -/
theorem scans_part (p q : Int → Bool) (hq : ∀ x, q x = !p x) (d : Array Int) (i j : Nat) (h0 : 1 ≤ i) (hij : i ≤ j + 1) (h : scanUp p d j i ≤ scanDown q d (scanUp p d j i) j) : scanUp p d j i < scanDown q d (scanUp p d j i) j :=
  ((round_facts p q hq d (i - 1) (j + 1) i j (by omega) hij (fun t h1 h2 => by omega) (fun t h1 h2 => by omega)).2.2.2.2.2.2 (by omega)).2.2
set_option maxHeartbeats 3200000 in
theorem parteq_any (blk off cap : Nat) (d : Array Int) (L a b p : Nat) (w : World) (hH : Holds eu w blk off d) (hb : blk < w.heap.size) (hL : d.size = L) (hbL : b ≤ L) (hap : a ≤ p) (hpb : p < b) (hL2 : L < 4611686018427387904) :
    Calls Try.prog 57 #[.slice (some ⟨blk, off, none⟩) L cap, .int .i64 (a : Int), .int .i64 (b : Int), .int .i64 (p : Int)] w fun e w' => e = .returned (.int .i64 ((partitionEqual ltInt d a b p).1 : Nat)) ∧ SU w w' blk off (partitionEqual ltInt d a b p).2 := by
  have HS0 := Lib.hid (SU.refl hH)
  have HH := Lib.hid hH
  have HL := Lib.hid hL
  clear hH hL
  have w1 : IntKind.i64.wrap ((a : Int) + 1) = (a : Int) + 1 := wr64 (by omega)
  have w2 : IntKind.i64.wrap ((b : Int) - 1) = (b : Int) - 1 := wr64 (by omega)
  obtain ⟨ca, fa⟩ := HS0.out.cell HH.out rfl hb a (by rw [HL.out]; omega)
  obtain ⟨cf, ff⟩ := HS0.out.cell HH.out rfl hb p (by rw [HL.out]; omega)
  have HSW := Lib.hid (HS0.out.swp hb a p (by rw [HL.out]; omega) (by rw [HL.out]; omega))
  have HD1 : Hid ((swp d a p).size = L) := by show _ = _; rw [swp_size]; exact HL.out
  have HR : Hid (partitionEqual ltInt d a b p = partEqLoop ltInt a (a + 1) (b - 1) (swp d a p)) := rfl
  generalize d[a]! = x at *
  generalize d[p]! = y at *
  generalize partitionEqual ltInt d a b p = R at *
  clear HS0
  go_enter Try.func57, Try.ntmps57
  go_upto_region 1 with (fail)
  go_cut [] (fun wx => Hid (SU w wx blk off (swp d a p)))
  case first =>
    by_cases hfa : a = p
    · subst hfa
      have e2 : x = y := by rw [ca] at cf; injection cf with h; injection h
      subst e2
      go_region
      go_wp2_with fail
      go_meet
      exact HSW.out.drew
    · have hne : ¬ a = p := hfa
      go_region
      go_wp2_with fail
      go_meet
      exact HSW.out.drew
  case rest =>
    have HSC := Lib.hid hcut.out
    clear hcut ca fa cf ff HSW
    generalize swp d a p = d1 at *
    go_wp2_with fail
    go_loopw [9, 10] (fun iv jv wr => ∃ (i j : Nat) (dr : Array Int), iv = .int .i64 (i : Int) ∧ jv = .int .i64 (j : Int) ∧ a < i ∧ i ≤ j + 1 ∧ j < b ∧ Hid (dr.size = L) ∧ Hid (SU w wr blk off dr) ∧ Hid (R = partEqLoop ltInt a i j dr)) (fun iv jv _ => (intOf jv).toNat + 1 - (intOf iv).toNat)
    case atStart => exact ⟨a + 1, b - 1, d1, by go_num, by congr 1; omega, by omega, by omega, by omega, HD1.out, HSC.out, HR.out⟩
    case round =>
      clear HSC HR HD1
      obtain ⟨i, j, dr, rfl, rfl, hi, hij, hj, HD, HS, HE⟩ := hrel
      obtain ⟨wo, rfl⟩ : ∃ wo : World, wo = wr := ⟨_, rfl⟩
      obtain ⟨v, hv⟩ : ∃ v, dr[a]! = v := ⟨_, rfl⟩
      have HV := Lib.hid hv
      clear hv
      obtain ⟨PU, hPU⟩ : ∃ PU : Int → Bool, PU = fun x => !ltInt dr[a]! x := ⟨_, rfl⟩
      obtain ⟨PD, hPD⟩ : ∃ PD : Int → Bool, PD = fun x => ltInt dr[a]! x := ⟨_, rfl⟩
      have HPU : Hid (∀ x, PU x = (!ltInt v x)) := fun x => by rw [hPU, ← HV.out]
      have HPD : Hid (∀ x, PD x = (ltInt v x)) := fun x => by rw [hPD, ← HV.out]
      have HEU := Lib.hid hPU
      have HED := Lib.hid hPD
      clear hPU hPD
      go_upto_block 2 with (fail)
      go_cut [9] (fun iv wx => ∃ i2 : Nat, iv = .int .i64 (i2 : Int) ∧ i ≤ i2 ∧ i2 ≤ j + 1 ∧ Hid (SU w wx blk off dr) ∧ Hid (scanUp PU dr j i = i2))
      case first =>
        go_wp2_with fail
        go_loopw [9] (fun iv wr => ∃ i2 : Nat, iv = .int .i64 (i2 : Int) ∧ i ≤ i2 ∧ i2 ≤ j + 1 ∧ Hid (SU w wr blk off dr) ∧ Hid (scanUp PU dr j i2 = scanUp PU dr j i)) (fun iv _ => j + 1 - (intOf iv).toNat)
        case atStart => exact ⟨i, rfl, Nat.le_refl _, by omega, HS.out, rfl⟩
        case round =>
          obtain ⟨i2, rfl, hb1, hb2, HS2, HE2⟩ := hrel
          obtain ⟨c0, f0⟩ := HS2.out.cell HH.out (by rw [HD.out, HL.out]) hb a (by rw [HD.out]; omega)
          rw [HV.out] at c0
          by_cases hle : i2 ≤ j
          · have hleI : (i2 : Int) ≤ (j : Int) := by omega
            have p1 : decide ((i2 : Int) ≤ (j : Int)) = true := decide_eq_true hleI
            obtain ⟨c1, f1⟩ := HS2.out.cell HH.out (by rw [HD.out, HL.out]) hb i2 (by rw [HD.out]; omega)
            obtain ⟨x, hx⟩ : ∃ x, dr[i2]! = x := ⟨_, rfl⟩
            rw [hx] at c1
            have hx := Lib.hid hx
            cases hl : PU x with
            | true =>
              have hlv : ltInt v x = false := by
                have := HPU.out x
                rw [hl] at this
                simpa using this.symm
              have HLF : Hid (∀ (W : World) m, Calls Try.prog 56 #[.int .u64 v, .int .u64 x] (W.drewN m) fun e w' => e = .returned (.bool false) ∧ ∃ m', w' = W.drewN m') := fun W m => (less_any v x _).mono fun e w' ⟨h1, h2⟩ => ⟨by rw [← hlv]; exact h1, m, h2⟩
              have HNX : Hid (scanUp PU dr j (i2 + 1) = scanUp PU dr j i) := (up_go PU dr j i2 hle (by rw [hx.out]; exact hl)).symm.trans HE2.out
              clear hl hlv
              go_wp2_with fail
              go_quiet ((go_at_call 56; (with_reducible exact HLF.out _ _)))
              go_wp2_with fail
              go_roundw
              case rel => exact ⟨i2 + 1, by go_num, by omega, by omega, HS2.out.drewN _, HNX.out⟩
              case measure => simp [intOf]; omega
            | false =>
              have hlv : ltInt v x = true := by
                have := HPU.out x
                rw [hl] at this
                simpa using this.symm
              have HLF : Hid (∀ (W : World) m, Calls Try.prog 56 #[.int .u64 v, .int .u64 x] (W.drewN m) fun e w' => e = .returned (.bool true) ∧ ∃ m', w' = W.drewN m') := fun W m => (less_any v x _).mono fun e w' ⟨h1, h2⟩ => ⟨by rw [← hlv]; exact h1, m, h2⟩
              have HNX : Hid (scanUp PU dr j i = i2) := HE2.out.symm.trans (up_end PU dr j i2 (Or.inr (by rw [hx.out]; exact hl)))
              clear hl hlv
              go_wp2_with fail
              go_quiet ((go_at_call 56; (with_reducible exact HLF.out _ _)))
              go_wp2_with fail
              go_meet
              exact ⟨i2, rfl, by omega, by omega, HS2.out.drewN _, HNX.out⟩
          · have hleI : ¬ (i2 : Int) ≤ (j : Int) := by omega
            have p1 : decide ((i2 : Int) ≤ (j : Int)) = false := decide_eq_false hleI
            have HNX : Hid (scanUp PU dr j i = i2) := HE2.out.symm.trans (up_end PU dr j i2 (Or.inl hle))
            go_wp2_with fail
            go_quiet (fail)
            go_wp2_with fail
            go_meet
            exact ⟨i2, rfl, by omega, by omega, HS2.out.drewN _, HNX.out⟩
      case rest =>
        obtain ⟨i2, rfl, hi2, hi2j, HSU, HEI⟩ := hcut
        clear HS
        obtain ⟨wp, rfl⟩ : ∃ wp : World, wp = wc := ⟨_, rfl⟩
        go_upto_block 4 with (fail)
        go_cut [10] (fun iv wx => ∃ j2 : Nat, iv = .int .i64 (j2 : Int) ∧ j2 ≤ j ∧ i2 ≤ j2 + 1 ∧ Hid (SU w wx blk off dr) ∧ Hid (scanDown PD dr i2 j = j2))
        case first =>
          go_wp2_with fail
          go_loopw [10] (fun iv wr => ∃ j2 : Nat, iv = .int .i64 (j2 : Int) ∧ j2 ≤ j ∧ i2 ≤ j2 + 1 ∧ Hid (SU w wr blk off dr) ∧ Hid (scanDown PD dr i2 j2 = scanDown PD dr i2 j)) (fun iv _ => (intOf iv).toNat)
          case atStart => exact ⟨j, rfl, Nat.le_refl _, by omega, HSU.out, rfl⟩
          case round =>
            obtain ⟨j2, rfl, hb1, hb2, HS2, HE2⟩ := hrel
            obtain ⟨c0, f0⟩ := HS2.out.cell HH.out (by rw [HD.out, HL.out]) hb a (by rw [HD.out]; omega)
            rw [HV.out] at c0
            by_cases hle : i2 ≤ j2
            · have hleI : (i2 : Int) ≤ (j2 : Int) := by omega
              have p1 : decide ((i2 : Int) ≤ (j2 : Int)) = true := decide_eq_true hleI
              obtain ⟨c1, f1⟩ := HS2.out.cell HH.out (by rw [HD.out, HL.out]) hb j2 (by rw [HD.out]; omega)
              obtain ⟨x, hx⟩ : ∃ x, dr[j2]! = x := ⟨_, rfl⟩
              rw [hx] at c1
              have hx := Lib.hid hx
              cases hl : PD x with
              | true =>
                have hlv : ltInt v x = true := by
                  have := HPD.out x
                  rw [hl] at this
                  simpa using this.symm
                have HLF : Hid (∀ (W : World) m, Calls Try.prog 56 #[.int .u64 v, .int .u64 x] (W.drewN m) fun e w' => e = .returned (.bool true) ∧ ∃ m', w' = W.drewN m') := fun W m => (less_any v x _).mono fun e w' ⟨h1, h2⟩ => ⟨by rw [← hlv]; exact h1, m, h2⟩
                have HNX : Hid (scanDown PD dr i2 (j2 - 1) = scanDown PD dr i2 j) := (dn_go PD dr i2 j2 hle (by omega) (by rw [hx.out]; exact hl)).symm.trans HE2.out
                clear hl hlv
                go_wp2_with fail
                go_quiet ((go_at_call 56; (with_reducible exact HLF.out _ _)))
                go_wp2_with fail
                go_roundw
                case rel => exact ⟨j2 - 1, by congr 1; omega, by omega, by omega, HS2.out.drewN _, HNX.out⟩
                case measure => simp [intOf]; omega
              | false =>
                have hlv : ltInt v x = false := by
                  have := HPD.out x
                  rw [hl] at this
                  simpa using this.symm
                have HLF : Hid (∀ (W : World) m, Calls Try.prog 56 #[.int .u64 v, .int .u64 x] (W.drewN m) fun e w' => e = .returned (.bool false) ∧ ∃ m', w' = W.drewN m') := fun W m => (less_any v x _).mono fun e w' ⟨h1, h2⟩ => ⟨by rw [← hlv]; exact h1, m, h2⟩
                have HNX : Hid (scanDown PD dr i2 j = j2) := HE2.out.symm.trans (dn_end PD dr i2 j2 (Or.inr (by rw [hx.out]; exact hl)))
                clear hl hlv
                go_wp2_with fail
                go_quiet ((go_at_call 56; (with_reducible exact HLF.out _ _)))
                go_wp2_with fail
                go_meet
                exact ⟨j2, rfl, by omega, by omega, HS2.out.drewN _, HNX.out⟩
            · have hleI : ¬ (i2 : Int) ≤ (j2 : Int) := by omega
              have p1 : decide ((i2 : Int) ≤ (j2 : Int)) = false := decide_eq_false hleI
              have HNX : Hid (scanDown PD dr i2 j = j2) := HE2.out.symm.trans (dn_end PD dr i2 j2 (Or.inl hle))
              go_wp2_with fail
              go_quiet (fail)
              go_wp2_with fail
              go_meet
              exact ⟨j2, rfl, by omega, by omega, HS2.out.drewN _, HNX.out⟩
        case rest =>
          obtain ⟨j2, rfl, hj2, hij2, HSD, HEJ⟩ := hcut
          clear HSU
          by_cases hgt : j2 < i2
          · have hgtI : (j2 : Int) < (i2 : Int) := by omega
            have HR : Hid (R = (i2, dr)) := by
              have := HE.out
              rw [partEqLoop_eq, ← HEU.out, ← HED.out, HEI.out, HEJ.out, if_pos hgt] at this
              exact this
            go_wp2_with fail
            go_ret
            rw [HR.out]
            exact ⟨rfl, HSD.out⟩
          · have hgtI : ¬ (j2 : Int) < (i2 : Int) := by omega
            have HR : Hid (R = partEqLoop ltInt a (i2 + 1) (j2 - 1) (swp dr i2 j2)) := by
              have := HE.out
              rw [partEqLoop_eq, ← HEU.out, ← HED.out, HEI.out, HEJ.out, if_neg hgt] at this
              exact this
            have hlt : i2 < j2 := by
              have := scans_part PU PD (fun x => by rw [HPU.out, HPD.out, Bool.not_not]) dr i j (by omega) hij (by rw [HEI.out, HEJ.out]; omega)
              rwa [HEI.out, HEJ.out] at this
            have hne : ¬ i2 = j2 := by omega
            obtain ⟨ci, fi⟩ := HSD.out.cell HH.out (by rw [HD.out, HL.out]) hb i2 (by rw [HD.out]; omega)
            obtain ⟨cj, fj⟩ := HSD.out.cell HH.out (by rw [HD.out, HL.out]) hb j2 (by rw [HD.out]; omega)
            have HSW := Lib.hid (HSD.out.swp hb i2 j2 (by rw [HD.out]; omega) (by rw [HD.out]; omega))
            generalize dr[i2]! = x2 at *
            generalize dr[j2]! = y2 at *
            go_wp2_with fail
            go_region
            clear ci fi cj fj
            go_wp2_with fail
            go_roundw
            case rel => exact ⟨i2 + 1, j2 - 1, _, by go_num, by congr 1; omega, by omega, by omega, by omega, by show _ = _; rw [swp_size]; exact HD.out, HSW.out.drew, HR.out⟩
            case measure => simp [intOf]; omega
end Go.Proofs.Yticodfdonpookaa.Su
