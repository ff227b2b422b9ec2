/- partitionOrdered[uint64]: it computes the plain one. Condition: indices within the row. (Printed by mkpart.py.) -/
import Derived.Test.YticodfdonpookaaSuPartE
set_option linter.unusedSimpArgs false
set_option linter.unusedVariables false
set_option maxRecDepth 20000
namespace Go.Proofs.Yticodfdonpookaa.Su
open Go.RowKit Go.Sort
set_option maxHeartbeats 6400000 in
theorem part_any (blk off cap : Nat) (d : Array Int) (L a b p : Nat) (w : World) (hH : Holds eu w blk off d) (hb : blk < w.heap.size) (hL : d.size = L) (hbL : b ≤ L) (hap : a ≤ p) (hpb : p < b) (hL2 : L < 4611686018427387904) :
    Calls Try.prog 58 #[.slice (some ⟨blk, off, none⟩) L cap, .int .i64 (a : Int), .int .i64 (b : Int), .int .i64 (p : Int)] w fun e w' => e = .returned (.tuple #[.int .i64 ((partition ltInt d a b p).1 : Nat), .bool (partition ltInt d a b p).2.1]) ∧ SU w w' blk off (partition ltInt d a b p).2.2 := by
  have HS0 := Lib.hid (SU.refl hH)
  have HH := Lib.hid hH
  have HL := Lib.hid hL
  clear hH hL
  obtain ⟨i, hi⟩ : ∃ i, a + 1 = i := ⟨_, rfl⟩
  obtain ⟨j, hj⟩ : ∃ j, b - 1 = j := ⟨_, rfl⟩
  have hiI : (a : Int) + 1 = (i : Int) := by omega
  have hjI : (b : Int) - 1 = (j : Int) := by omega
  have w1 : IntKind.i64.wrap (i : Int) = (i : Int) := wr64 (by omega)
  have w2 : IntKind.i64.wrap (j : Int) = (j : Int) := wr64 (by omega)
  have hij : i ≤ j + 1 := by omega
  obtain ⟨ca, fa⟩ := HS0.out.cell HH.out rfl hb a (by rw [HL.out]; omega)
  obtain ⟨cf, ff⟩ := HS0.out.cell HH.out rfl hb p (by rw [HL.out]; omega)
  have HSW := Lib.hid (HS0.out.swp hb a p (by rw [HL.out]; omega) (by rw [HL.out]; omega))
  have HD : Hid ((swp d a p).size = L) := by show _ = _; rw [swp_size]; exact HL.out
  obtain ⟨R, hR⟩ : ∃ R, partition ltInt d a b p = R := ⟨_, rfl⟩
  have HR0 : Hid (R = (if scanUp (fun x => ltInt x (swp d a p)[a]!) (swp d a p) j i > scanDown (fun x => !ltInt x (swp d a p)[a]!) (swp d a p) (scanUp (fun x => ltInt x (swp d a p)[a]!) (swp d a p) j i) j then (scanDown (fun x => !ltInt x (swp d a p)[a]!) (swp d a p) (scanUp (fun x => ltInt x (swp d a p)[a]!) (swp d a p) j i) j, true, swp (swp d a p) (scanDown (fun x => !ltInt x (swp d a p)[a]!) (swp d a p) (scanUp (fun x => ltInt x (swp d a p)[a]!) (swp d a p) j i) j) a) else
    ((partLoop ltInt a (scanUp (fun x => ltInt x (swp d a p)[a]!) (swp d a p) j i + 1) (scanDown (fun x => !ltInt x (swp d a p)[a]!) (swp d a p) (scanUp (fun x => ltInt x (swp d a p)[a]!) (swp d a p) j i) j - 1) (swp (swp d a p) (scanUp (fun x => ltInt x (swp d a p)[a]!) (swp d a p) j i) (scanDown (fun x => !ltInt x (swp d a p)[a]!) (swp d a p) (scanUp (fun x => ltInt x (swp d a p)[a]!) (swp d a p) j i) j))).1, false, swp (partLoop ltInt a (scanUp (fun x => ltInt x (swp d a p)[a]!) (swp d a p) j i + 1) (scanDown (fun x => !ltInt x (swp d a p)[a]!) (swp d a p) (scanUp (fun x => ltInt x (swp d a p)[a]!) (swp d a p) j i) j - 1) (swp (swp d a p) (scanUp (fun x => ltInt x (swp d a p)[a]!) (swp d a p) j i) (scanDown (fun x => !ltInt x (swp d a p)[a]!) (swp d a p) (scanUp (fun x => ltInt x (swp d a p)[a]!) (swp d a p) j i) j))).2 (partLoop ltInt a (scanUp (fun x => ltInt x (swp d a p)[a]!) (swp d a p) j i + 1) (scanDown (fun x => !ltInt x (swp d a p)[a]!) (swp d a p) (scanUp (fun x => ltInt x (swp d a p)[a]!) (swp d a p) j i) j - 1) (swp (swp d a p) (scanUp (fun x => ltInt x (swp d a p)[a]!) (swp d a p) j i) (scanDown (fun x => !ltInt x (swp d a p)[a]!) (swp d a p) (scanUp (fun x => ltInt x (swp d a p)[a]!) (swp d a p) j i) j))).1 a))) := by
    show _ = _
    rw [← hR, ← hi, ← hj]; rfl
  rw [hR]
  generalize d[a]! = x at ca cf HSW
  generalize d[p]! = y at ca cf HSW
  clear HS0 hR
  go_enter Try.func58, Try.ntmps58
  go_upto_region 1 with (fail)
  go_cut [] (fun wx => Hid (SU w wx blk off (swp d a p)))
  case first =>
    by_cases hfa : a = p
    · subst hfa
      have e2 : x = y := by rw [ca] at cf; injection cf with h; injection h
      subst e2
      go_region
      go_wp2_with fail
      go_meet
      exact HSW.out.drew
    · have hne : ¬ a = p := hfa
      go_region
      go_wp2_with fail
      go_meet
      exact HSW.out.drew
  case rest =>
    have HS := Lib.hid hcut.out
    clear hcut ca fa cf ff HSW
    generalize swp d a p = dr at *
    obtain ⟨v, hv⟩ : ∃ v, dr[a]! = v := ⟨_, rfl⟩
    have HV := Lib.hid hv
    clear hv
    obtain ⟨PU, hPU⟩ : ∃ PU : Int → Bool, PU = fun x => ltInt x dr[a]! := ⟨_, rfl⟩
    obtain ⟨PD, hPD⟩ : ∃ PD : Int → Bool, PD = fun x => !ltInt x dr[a]! := ⟨_, rfl⟩
    have HPU : Hid (∀ x, PU x = (ltInt x v)) := fun x => by rw [hPU, ← HV.out]
    have HPD : Hid (∀ x, PD x = (!ltInt x v)) := fun x => by rw [hPD, ← HV.out]
    have HEU := Lib.hid hPU
    have HED := Lib.hid hPD
    clear hPU hPD
    rw [← HEU.out, ← HED.out] at HR0
    go_upto_block 0 with (fail)
    go_cut [10] (fun iv wx => ∃ i2 : Nat, iv = .int .i64 (i2 : Int) ∧ i ≤ i2 ∧ i2 ≤ j + 1 ∧ Hid (SU w wx blk off dr) ∧ Hid (scanUp PU dr j i = i2))
    case first =>
      go_wp2_with fail
      go_loopw [10] (fun iv wr => ∃ i2 : Nat, iv = .int .i64 (i2 : Int) ∧ i ≤ i2 ∧ i2 ≤ j + 1 ∧ Hid (SU w wr blk off dr) ∧ Hid (scanUp PU dr j i2 = scanUp PU dr j i)) (fun iv _ => j + 1 - (intOf iv).toNat)
      case atStart => exact ⟨i, rfl, Nat.le_refl _, by omega, HS.out, rfl⟩
      case round =>
        obtain ⟨i2, rfl, hb1, hb2, HS2, HE2⟩ := hrel
        obtain ⟨c0, f0⟩ := HS2.out.cell HH.out (by rw [HD.out, HL.out]) hb a (by rw [HD.out]; omega)
        rw [HV.out] at c0
        by_cases hle : i2 ≤ j
        · have hleI : (i2 : Int) ≤ (j : Int) := by omega
          have p1 : decide ((i2 : Int) ≤ (j : Int)) = true := decide_eq_true hleI
          obtain ⟨c1, f1⟩ := HS2.out.cell HH.out (by rw [HD.out, HL.out]) hb i2 (by rw [HD.out]; omega)
          obtain ⟨x, hx⟩ : ∃ x, dr[i2]! = x := ⟨_, rfl⟩
          rw [hx] at c1
          have hx := Lib.hid hx
          cases hl : PU x with
          | true =>
            have hlv : ltInt x v = true := by
              have := HPU.out x
              rw [hl] at this
              simpa using this.symm
            have HLF : Hid (∀ (W : World) m, Calls Try.prog 56 #[.int .u64 x, .int .u64 v] (W.drewN m) fun e w' => e = .returned (.bool true) ∧ ∃ m', w' = W.drewN m') := fun W m => (less_any x v _).mono fun e w' ⟨h1, h2⟩ => ⟨by rw [← hlv]; exact h1, m, h2⟩
            have HNX : Hid (scanUp PU dr j (i2 + 1) = scanUp PU dr j i) := (up_go PU dr j i2 hle (by rw [hx.out]; exact hl)).symm.trans HE2.out
            clear hl hlv
            go_wp2_with fail
            go_quiet ((go_at_call 56; (with_reducible exact HLF.out _ _)))
            go_wp2_with fail
            go_roundw
            case rel => exact ⟨i2 + 1, by go_num, by omega, by omega, HS2.out.drewN _, HNX.out⟩
            case measure => simp [intOf]; omega
          | false =>
            have hlv : ltInt x v = false := by
              have := HPU.out x
              rw [hl] at this
              simpa using this.symm
            have HLF : Hid (∀ (W : World) m, Calls Try.prog 56 #[.int .u64 x, .int .u64 v] (W.drewN m) fun e w' => e = .returned (.bool false) ∧ ∃ m', w' = W.drewN m') := fun W m => (less_any x v _).mono fun e w' ⟨h1, h2⟩ => ⟨by rw [← hlv]; exact h1, m, h2⟩
            have HNX : Hid (scanUp PU dr j i = i2) := HE2.out.symm.trans (up_end PU dr j i2 (Or.inr (by rw [hx.out]; exact hl)))
            clear hl hlv
            go_wp2_with fail
            go_quiet ((go_at_call 56; (with_reducible exact HLF.out _ _)))
            go_wp2_with fail
            go_meet
            exact ⟨i2, rfl, by omega, by omega, HS2.out.drewN _, HNX.out⟩
        · have hleI : ¬ (i2 : Int) ≤ (j : Int) := by omega
          have p1 : decide ((i2 : Int) ≤ (j : Int)) = false := decide_eq_false hleI
          have HNX : Hid (scanUp PU dr j i = i2) := HE2.out.symm.trans (up_end PU dr j i2 (Or.inl hle))
          go_wp2_with fail
          go_quiet (fail)
          go_wp2_with fail
          go_meet
          exact ⟨i2, rfl, by omega, by omega, HS2.out.drewN _, HNX.out⟩
    case rest =>
      obtain ⟨i2, rfl, hi2, hi2j, HSU, HEI⟩ := hcut
      clear HS
      rw [HEI.out] at HR0
      obtain ⟨wp, rfl⟩ : ∃ wp : World, wp = wc := ⟨_, rfl⟩
      go_upto_block 2 with (fail)
      go_cut [11] (fun iv wx => ∃ j2 : Nat, iv = .int .i64 (j2 : Int) ∧ j2 ≤ j ∧ i2 ≤ j2 + 1 ∧ Hid (SU w wx blk off dr) ∧ Hid (scanDown PD dr i2 j = j2))
      case first =>
        go_wp2_with fail
        go_loopw [11] (fun iv wr => ∃ j2 : Nat, iv = .int .i64 (j2 : Int) ∧ j2 ≤ j ∧ i2 ≤ j2 + 1 ∧ Hid (SU w wr blk off dr) ∧ Hid (scanDown PD dr i2 j2 = scanDown PD dr i2 j)) (fun iv _ => (intOf iv).toNat)
        case atStart => exact ⟨j, rfl, Nat.le_refl _, by omega, HSU.out, rfl⟩
        case round =>
          obtain ⟨j2, rfl, hb1, hb2, HS2, HE2⟩ := hrel
          obtain ⟨c0, f0⟩ := HS2.out.cell HH.out (by rw [HD.out, HL.out]) hb a (by rw [HD.out]; omega)
          rw [HV.out] at c0
          by_cases hle : i2 ≤ j2
          · have hleI : (i2 : Int) ≤ (j2 : Int) := by omega
            have p1 : decide ((i2 : Int) ≤ (j2 : Int)) = true := decide_eq_true hleI
            obtain ⟨c1, f1⟩ := HS2.out.cell HH.out (by rw [HD.out, HL.out]) hb j2 (by rw [HD.out]; omega)
            obtain ⟨x, hx⟩ : ∃ x, dr[j2]! = x := ⟨_, rfl⟩
            rw [hx] at c1
            have hx := Lib.hid hx
            cases hl : PD x with
            | true =>
              have hlv : ltInt x v = false := by
                have := HPD.out x
                rw [hl] at this
                simpa using this.symm
              have HLF : Hid (∀ (W : World) m, Calls Try.prog 56 #[.int .u64 x, .int .u64 v] (W.drewN m) fun e w' => e = .returned (.bool false) ∧ ∃ m', w' = W.drewN m') := fun W m => (less_any x v _).mono fun e w' ⟨h1, h2⟩ => ⟨by rw [← hlv]; exact h1, m, h2⟩
              have HNX : Hid (scanDown PD dr i2 (j2 - 1) = scanDown PD dr i2 j) := (dn_go PD dr i2 j2 hle (by omega) (by rw [hx.out]; exact hl)).symm.trans HE2.out
              clear hl hlv
              go_wp2_with fail
              go_quiet ((go_at_call 56; (with_reducible exact HLF.out _ _)))
              go_wp2_with fail
              go_roundw
              case rel => exact ⟨j2 - 1, by congr 1; omega, by omega, by omega, HS2.out.drewN _, HNX.out⟩
              case measure => simp [intOf]; omega
            | false =>
              have hlv : ltInt x v = true := by
                have := HPD.out x
                rw [hl] at this
                simpa using this.symm
              have HLF : Hid (∀ (W : World) m, Calls Try.prog 56 #[.int .u64 x, .int .u64 v] (W.drewN m) fun e w' => e = .returned (.bool true) ∧ ∃ m', w' = W.drewN m') := fun W m => (less_any x v _).mono fun e w' ⟨h1, h2⟩ => ⟨by rw [← hlv]; exact h1, m, h2⟩
              have HNX : Hid (scanDown PD dr i2 j = j2) := HE2.out.symm.trans (dn_end PD dr i2 j2 (Or.inr (by rw [hx.out]; exact hl)))
              clear hl hlv
              go_wp2_with fail
              go_quiet ((go_at_call 56; (with_reducible exact HLF.out _ _)))
              go_wp2_with fail
              go_meet
              exact ⟨j2, rfl, by omega, by omega, HS2.out.drewN _, HNX.out⟩
          · have hleI : ¬ (i2 : Int) ≤ (j2 : Int) := by omega
            have p1 : decide ((i2 : Int) ≤ (j2 : Int)) = false := decide_eq_false hleI
            have HNX : Hid (scanDown PD dr i2 j = j2) := HE2.out.symm.trans (dn_end PD dr i2 j2 (Or.inl hle))
            go_wp2_with fail
            go_quiet (fail)
            go_wp2_with fail
            go_meet
            exact ⟨j2, rfl, by omega, by omega, HS2.out.drewN _, HNX.out⟩
      case rest =>
        obtain ⟨j2, rfl, hj2, hij2, HSD, HEJ⟩ := hcut
        clear HSU
        rw [HEJ.out] at HR0
        by_cases hgt : j2 < i2
        · have hgtI : (j2 : Int) < (i2 : Int) := by omega
          rw [if_pos hgt] at HR0
          obtain ⟨ci, fi⟩ := HSD.out.cell HH.out (by rw [HD.out, HL.out]) hb j2 (by rw [HD.out]; omega)
          obtain ⟨cj, fj⟩ := HSD.out.cell HH.out (by rw [HD.out, HL.out]) hb a (by rw [HD.out]; omega)
          have HSW := Lib.hid (HSD.out.swp hb j2 a (by rw [HD.out]; omega) (by rw [HD.out]; omega))
          generalize dr[j2]! = xx at ci fi cj fj HSW
          generalize dr[a]! = yy at ci fi cj fj HSW
          go_wp2_with fail
          by_cases hfa : j2 = a
          · subst hfa
            have e2 : xx = yy := by rw [ci] at cj; injection cj with h; injection h
            subst e2
            go_region
            clear ci fi cj fj
            go_wp2_with fail
            go_ret2
            rw [HR0.out]
            exact ⟨rfl, HSW.out.drew⟩
          · have hne : ¬ j2 = a := hfa
            go_region
            clear ci fi cj fj
            go_wp2_with fail
            go_ret2
            rw [HR0.out]
            exact ⟨rfl, HSW.out.drew⟩
        · have hgtI : ¬ (j2 : Int) < (i2 : Int) := by omega
          rw [if_neg hgt] at HR0
          have hlt : i2 < j2 := by
            have := scans_part PU PD (fun x => by rw [HPU.out, HPD.out]) dr i j (by omega) hij (by rw [HEI.out, HEJ.out]; omega)
            rwa [HEI.out, HEJ.out] at this
          have hne : ¬ i2 = j2 := by omega
          obtain ⟨ci, fi⟩ := HSD.out.cell HH.out (by rw [HD.out, HL.out]) hb i2 (by rw [HD.out]; omega)
          obtain ⟨cj, fj⟩ := HSD.out.cell HH.out (by rw [HD.out, HL.out]) hb j2 (by rw [HD.out]; omega)
          have HSW := Lib.hid (HSD.out.swp hb i2 j2 (by rw [HD.out]; omega) (by rw [HD.out]; omega))
          generalize dr[i2]! = xx at ci fi cj fj HSW
          generalize dr[j2]! = yy at ci fi cj fj HSW
          have HD1 : Hid ((swp dr i2 j2).size = L) := by show _ = _; rw [swp_size]; exact HD.out
          have w3 : IntKind.i64.wrap ((i2 : Int) + 1) = (i2 : Int) + 1 := wr64 (by omega)
          have w4 : IntKind.i64.wrap ((j2 : Int) - 1) = (j2 : Int) - 1 := wr64 (by omega)
          clear HSD HEI HEJ HEU HED HPU HPD HV
          generalize swp dr i2 j2 = d1 at *
          go_wp2_with fail
          go_region
          clear ci fi cj fj
          go_wp2_with fail
          go_loopw [10, 11] (fun iv jv wr => ∃ (i j : Nat) (dr : Array Int), iv = .int .i64 (i : Int) ∧ jv = .int .i64 (j : Int) ∧ a < i ∧ i ≤ j + 1 ∧ j < b ∧ Hid (dr.size = L) ∧ Hid (SU w wr blk off dr) ∧ Hid (R = ((partLoop ltInt a i j dr).1, false, swp (partLoop ltInt a i j dr).2 (partLoop ltInt a i j dr).1 a))) (fun iv jv _ => (intOf jv).toNat + 1 - (intOf iv).toNat)
          case atStart => exact ⟨i2 + 1, j2 - 1, d1, by congr 1, by congr 1; omega, by omega, by omega, by omega, HD1.out, HSW.out.drew, HR0.out⟩
          case round =>
            clear HSW HR0 HD1 HD w1 w2 w3 w4 hne hlt hgtI hgt hij2 hj2 hi2 hi2j hij hiI hjI hi hj
            obtain ⟨i, j, dr, rfl, rfl, hi, hij, hj, HD, HS, HE⟩ := hrel
            obtain ⟨wo, rfl⟩ : ∃ wo : World, wo = wr := ⟨_, rfl⟩
            clear PU PD v
            obtain ⟨v, hv⟩ : ∃ v, dr[a]! = v := ⟨_, rfl⟩
            have HV := Lib.hid hv
            clear hv
            obtain ⟨PU, hPU⟩ : ∃ PU : Int → Bool, PU = fun x => ltInt x dr[a]! := ⟨_, rfl⟩
            obtain ⟨PD, hPD⟩ : ∃ PD : Int → Bool, PD = fun x => !ltInt x dr[a]! := ⟨_, rfl⟩
            have HPU : Hid (∀ x, PU x = (ltInt x v)) := fun x => by rw [hPU, ← HV.out]
            have HPD : Hid (∀ x, PD x = (!ltInt x v)) := fun x => by rw [hPD, ← HV.out]
            have HEU := Lib.hid hPU
            have HED := Lib.hid hPD
            clear hPU hPD
            go_upto_block 6 with (fail)
            go_cut [10] (fun iv wx => ∃ i2 : Nat, iv = .int .i64 (i2 : Int) ∧ i ≤ i2 ∧ i2 ≤ j + 1 ∧ Hid (SU w wx blk off dr) ∧ Hid (scanUp PU dr j i = i2))
            case first =>
              go_wp2_with fail
              go_loopw [10] (fun iv wr => ∃ i2 : Nat, iv = .int .i64 (i2 : Int) ∧ i ≤ i2 ∧ i2 ≤ j + 1 ∧ Hid (SU w wr blk off dr) ∧ Hid (scanUp PU dr j i2 = scanUp PU dr j i)) (fun iv _ => j + 1 - (intOf iv).toNat)
              case atStart => exact ⟨i, rfl, Nat.le_refl _, by omega, HS.out, rfl⟩
              case round =>
                obtain ⟨i2, rfl, hb1, hb2, HS2, HE2⟩ := hrel
                obtain ⟨c0, f0⟩ := HS2.out.cell HH.out (by rw [HD.out, HL.out]) hb a (by rw [HD.out]; omega)
                rw [HV.out] at c0
                by_cases hle : i2 ≤ j
                · have hleI : (i2 : Int) ≤ (j : Int) := by omega
                  have p1 : decide ((i2 : Int) ≤ (j : Int)) = true := decide_eq_true hleI
                  obtain ⟨c1, f1⟩ := HS2.out.cell HH.out (by rw [HD.out, HL.out]) hb i2 (by rw [HD.out]; omega)
                  obtain ⟨x, hx⟩ : ∃ x, dr[i2]! = x := ⟨_, rfl⟩
                  rw [hx] at c1
                  have hx := Lib.hid hx
                  cases hl : PU x with
                  | true =>
                    have hlv : ltInt x v = true := by
                      have := HPU.out x
                      rw [hl] at this
                      simpa using this.symm
                    have HLF : Hid (∀ (W : World) m, Calls Try.prog 56 #[.int .u64 x, .int .u64 v] (W.drewN m) fun e w' => e = .returned (.bool true) ∧ ∃ m', w' = W.drewN m') := fun W m => (less_any x v _).mono fun e w' ⟨h1, h2⟩ => ⟨by rw [← hlv]; exact h1, m, h2⟩
                    have HNX : Hid (scanUp PU dr j (i2 + 1) = scanUp PU dr j i) := (up_go PU dr j i2 hle (by rw [hx.out]; exact hl)).symm.trans HE2.out
                    clear hl hlv
                    go_wp2_with fail
                    go_quiet ((go_at_call 56; (with_reducible exact HLF.out _ _)))
                    go_wp2_with fail
                    go_roundw
                    case rel => exact ⟨i2 + 1, by go_num, by omega, by omega, HS2.out.drewN _, HNX.out⟩
                    case measure => simp [intOf]; omega
                  | false =>
                    have hlv : ltInt x v = false := by
                      have := HPU.out x
                      rw [hl] at this
                      simpa using this.symm
                    have HLF : Hid (∀ (W : World) m, Calls Try.prog 56 #[.int .u64 x, .int .u64 v] (W.drewN m) fun e w' => e = .returned (.bool false) ∧ ∃ m', w' = W.drewN m') := fun W m => (less_any x v _).mono fun e w' ⟨h1, h2⟩ => ⟨by rw [← hlv]; exact h1, m, h2⟩
                    have HNX : Hid (scanUp PU dr j i = i2) := HE2.out.symm.trans (up_end PU dr j i2 (Or.inr (by rw [hx.out]; exact hl)))
                    clear hl hlv
                    go_wp2_with fail
                    go_quiet ((go_at_call 56; (with_reducible exact HLF.out _ _)))
                    go_wp2_with fail
                    go_meet
                    exact ⟨i2, rfl, by omega, by omega, HS2.out.drewN _, HNX.out⟩
                · have hleI : ¬ (i2 : Int) ≤ (j : Int) := by omega
                  have p1 : decide ((i2 : Int) ≤ (j : Int)) = false := decide_eq_false hleI
                  have HNX : Hid (scanUp PU dr j i = i2) := HE2.out.symm.trans (up_end PU dr j i2 (Or.inl hle))
                  go_wp2_with fail
                  go_quiet (fail)
                  go_wp2_with fail
                  go_meet
                  exact ⟨i2, rfl, by omega, by omega, HS2.out.drewN _, HNX.out⟩
            case rest =>
              obtain ⟨i2, rfl, hi2, hi2j, HSU, HEI⟩ := hcut
              clear HS
              obtain ⟨wp, rfl⟩ : ∃ wp : World, wp = wc := ⟨_, rfl⟩
              go_upto_block 8 with (fail)
              go_cut [11] (fun iv wx => ∃ j2 : Nat, iv = .int .i64 (j2 : Int) ∧ j2 ≤ j ∧ i2 ≤ j2 + 1 ∧ Hid (SU w wx blk off dr) ∧ Hid (scanDown PD dr i2 j = j2))
              case first =>
                go_wp2_with fail
                go_loopw [11] (fun iv wr => ∃ j2 : Nat, iv = .int .i64 (j2 : Int) ∧ j2 ≤ j ∧ i2 ≤ j2 + 1 ∧ Hid (SU w wr blk off dr) ∧ Hid (scanDown PD dr i2 j2 = scanDown PD dr i2 j)) (fun iv _ => (intOf iv).toNat)
                case atStart => exact ⟨j, rfl, Nat.le_refl _, by omega, HSU.out, rfl⟩
                case round =>
                  obtain ⟨j2, rfl, hb1, hb2, HS2, HE2⟩ := hrel
                  obtain ⟨c0, f0⟩ := HS2.out.cell HH.out (by rw [HD.out, HL.out]) hb a (by rw [HD.out]; omega)
                  rw [HV.out] at c0
                  by_cases hle : i2 ≤ j2
                  · have hleI : (i2 : Int) ≤ (j2 : Int) := by omega
                    have p1 : decide ((i2 : Int) ≤ (j2 : Int)) = true := decide_eq_true hleI
                    obtain ⟨c1, f1⟩ := HS2.out.cell HH.out (by rw [HD.out, HL.out]) hb j2 (by rw [HD.out]; omega)
                    obtain ⟨x, hx⟩ : ∃ x, dr[j2]! = x := ⟨_, rfl⟩
                    rw [hx] at c1
                    have hx := Lib.hid hx
                    cases hl : PD x with
                    | true =>
                      have hlv : ltInt x v = false := by
                        have := HPD.out x
                        rw [hl] at this
                        simpa using this.symm
                      have HLF : Hid (∀ (W : World) m, Calls Try.prog 56 #[.int .u64 x, .int .u64 v] (W.drewN m) fun e w' => e = .returned (.bool false) ∧ ∃ m', w' = W.drewN m') := fun W m => (less_any x v _).mono fun e w' ⟨h1, h2⟩ => ⟨by rw [← hlv]; exact h1, m, h2⟩
                      have HNX : Hid (scanDown PD dr i2 (j2 - 1) = scanDown PD dr i2 j) := (dn_go PD dr i2 j2 hle (by omega) (by rw [hx.out]; exact hl)).symm.trans HE2.out
                      clear hl hlv
                      go_wp2_with fail
                      go_quiet ((go_at_call 56; (with_reducible exact HLF.out _ _)))
                      go_wp2_with fail
                      go_roundw
                      case rel => exact ⟨j2 - 1, by congr 1; omega, by omega, by omega, HS2.out.drewN _, HNX.out⟩
                      case measure => simp [intOf]; omega
                    | false =>
                      have hlv : ltInt x v = true := by
                        have := HPD.out x
                        rw [hl] at this
                        simpa using this.symm
                      have HLF : Hid (∀ (W : World) m, Calls Try.prog 56 #[.int .u64 x, .int .u64 v] (W.drewN m) fun e w' => e = .returned (.bool true) ∧ ∃ m', w' = W.drewN m') := fun W m => (less_any x v _).mono fun e w' ⟨h1, h2⟩ => ⟨by rw [← hlv]; exact h1, m, h2⟩
                      have HNX : Hid (scanDown PD dr i2 j = j2) := HE2.out.symm.trans (dn_end PD dr i2 j2 (Or.inr (by rw [hx.out]; exact hl)))
                      clear hl hlv
                      go_wp2_with fail
                      go_quiet ((go_at_call 56; (with_reducible exact HLF.out _ _)))
                      go_wp2_with fail
                      go_meet
                      exact ⟨j2, rfl, by omega, by omega, HS2.out.drewN _, HNX.out⟩
                  · have hleI : ¬ (i2 : Int) ≤ (j2 : Int) := by omega
                    have p1 : decide ((i2 : Int) ≤ (j2 : Int)) = false := decide_eq_false hleI
                    have HNX : Hid (scanDown PD dr i2 j = j2) := HE2.out.symm.trans (dn_end PD dr i2 j2 (Or.inl hle))
                    go_wp2_with fail
                    go_quiet (fail)
                    go_wp2_with fail
                    go_meet
                    exact ⟨j2, rfl, by omega, by omega, HS2.out.drewN _, HNX.out⟩
              case rest =>
                obtain ⟨j2, rfl, hj2, hij2, HSD, HEJ⟩ := hcut
                clear HSU
                by_cases hgt : j2 < i2
                · have hgtI : (j2 : Int) < (i2 : Int) := by omega
                  have HR : Hid (R = (j2, false, swp dr j2 a)) := by
                    have := HE.out
                    rw [partLoop_eq, ← HEU.out, ← HED.out, HEI.out, HEJ.out, if_pos hgt] at this
                    exact this
                  obtain ⟨ci, fi⟩ := HSD.out.cell HH.out (by rw [HD.out, HL.out]) hb j2 (by rw [HD.out]; omega)
                  obtain ⟨cj, fj⟩ := HSD.out.cell HH.out (by rw [HD.out, HL.out]) hb a (by rw [HD.out]; omega)
                  have HSW := Lib.hid (HSD.out.swp hb j2 a (by rw [HD.out]; omega) (by rw [HD.out]; omega))
                  generalize dr[j2]! = xx at ci fi cj fj HSW
                  generalize dr[a]! = yy at ci fi cj fj HSW
                  go_wp2_with fail
                  by_cases hfa : j2 = a
                  · subst hfa
                    have e2 : xx = yy := by rw [ci] at cj; injection cj with h; injection h
                    subst e2
                    go_region
                    clear ci fi cj fj
                    go_wp2_with fail
                    go_ret2
                    rw [HR.out]
                    exact ⟨rfl, HSW.out.drew⟩
                  · have hne : ¬ j2 = a := hfa
                    go_region
                    clear ci fi cj fj
                    go_wp2_with fail
                    go_ret2
                    rw [HR.out]
                    exact ⟨rfl, HSW.out.drew⟩
                · have hgtI : ¬ (j2 : Int) < (i2 : Int) := by omega
                  have HR : Hid (R = ((partLoop ltInt a (i2 + 1) (j2 - 1) (swp dr i2 j2)).1, false, swp (partLoop ltInt a (i2 + 1) (j2 - 1) (swp dr i2 j2)).2 (partLoop ltInt a (i2 + 1) (j2 - 1) (swp dr i2 j2)).1 a)) := by
                    have := HE.out
                    rw [partLoop_eq, ← HEU.out, ← HED.out, HEI.out, HEJ.out, if_neg hgt] at this
                    exact this
                  have hlt : i2 < j2 := by
                    have := scans_part PU PD (fun x => by rw [HPU.out, HPD.out]) dr i j (by omega) hij (by rw [HEI.out, HEJ.out]; omega)
                    rwa [HEI.out, HEJ.out] at this
                  have hne : ¬ i2 = j2 := by omega
                  obtain ⟨ci, fi⟩ := HSD.out.cell HH.out (by rw [HD.out, HL.out]) hb i2 (by rw [HD.out]; omega)
                  obtain ⟨cj, fj⟩ := HSD.out.cell HH.out (by rw [HD.out, HL.out]) hb j2 (by rw [HD.out]; omega)
                  have HSW := Lib.hid (HSD.out.swp hb i2 j2 (by rw [HD.out]; omega) (by rw [HD.out]; omega))
                  generalize dr[i2]! = xx at ci fi cj fj HSW
                  generalize dr[j2]! = yy at ci fi cj fj HSW
                  go_wp2_with fail
                  go_region
                  clear ci fi cj fj
                  go_wp2_with fail
                  go_roundw
                  case rel => exact ⟨i2 + 1, j2 - 1, _, by go_num, by congr 1; omega, by omega, by omega, by omega, by show _ = _; rw [swp_size]; exact HD.out, HSW.out.drew, HR.out⟩
                  case measure => simp [intOf]; omega
end Go.Proofs.Yticodfdonpookaa.Su
