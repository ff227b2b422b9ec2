/- The walk of PpsMany. No condition. -/
import Derived.Test.YthkbcgafpaomnaaAlive
import Derived.Test.YthkbcgafpaomnaaLaw
import Derived.Test.YthkbcgafpaomnaaIsSorted
set_option linter.unusedSimpArgs false
set_option linter.unusedVariables false
namespace Go.Proofs.Ythkbcgafpaomnaa.ppsMany
open Go.RowKit Go.Proofs.Ythkbcgafpaomnaa
theorem walk_bad (v : Value) (zs : List Int) (many start : Int) (w : World) (h : Rd w v zs) (hg : ¬ (Good zs many ∧ 0 ≤ start ∧ start < zs.sum)) : Calls Try.prog 6 #[v, .int .i64 many, .int .i64 start] w fun e w' => e = .returned (.bool true) ∧ Below w.heap.size w w' := by
  have HR := Lib.hid h; clear h
  have HG := Lib.hid hg; clear hg
  go_enter Try.func6, Try.ntmps6
  go_wp2_with fail
  refine (alive_any _).mono ?_
  rintro e w1 ⟨rfl, hb1⟩
  go_wp2_with fail
  refine (take_bad v zs many start _ (HR.out.below hb1 (Nat.le_refl _)) HG.out).mono ?_
  rintro e w2 ⟨c, rfl, hc, rfl⟩
  have hc' : (c != 0) = true := by rw [bne_iff_ne]; omega
  go_wp2_with fail
  go_ret
  exact ⟨by simp, hb1⟩
set_option maxHeartbeats 400000 in
theorem walk_good (v : Value) (zs : List Int) (many start : Int) (w : World) (h : Rd w v zs) (hg : Good zs many) (h0 : 0 ≤ start) (h1 : start < zs.sum) : Calls Try.prog 6 #[v, .int .i64 many, .int .i64 start] w fun e w' => e = .returned (.bool true) ∧ Below w.heap.size w w' := by
  have HR := Lib.hid h
  have HG := Lib.hid hg; clear hg
  have H1 := Lib.hid h1; clear h1
  obtain ⟨a, cap, rfl, hlc, hcm, hop⟩ := h.open
  have HO := Lib.hid hop; clear hop h
  have hl400 : zs.length ≤ 400 := HG.out.1
  go_enter Try.func6, Try.ntmps6
  go_wp2_with fail
  refine (alive_any _).mono ?_
  rintro e w1 ⟨rfl, hb1⟩
  go_wp2_with fail
  refine (take_good _ zs many start _ (HR.out.below hb1 (Nat.le_refl _)) HG.out h0 H1.out).mono ?_
  rintro e w2 ⟨v2, rfl, hown, hb2⟩
  have hrd := Rd.own hown
  have HM := Lib.hid (tk_mem zs many start zs.sum (by have := H1.out; omega) zs.length (Nat.le_refl _))
  have HP := Lib.hid (pair_get (tk_pair zs many start zs.sum (by have := H1.out; omega) zs.length (Nat.le_refl _)))
  have HL := Lib.hid ((congrArg Int.ofNat (tk_len zs many start zs.sum zs.length (Nat.le_refl _) HG.out.2.2.2.1 (by have := HG.out.2.1; omega) h0 (by have := H1.out; omega))).trans (L_all zs many start (by have := HG.out.2.1; omega) h0 H1.out))
  have hB := hb1.trans (hb2.mono hb1.size)
  clear hown hb1 hb2
  have HQ := Lib.hid (rfl : tk zs many start zs.sum zs.length = tk zs many start zs.sum zs.length)
  generalize tk zs many start zs.sum zs.length = T at *
  clear HQ
  have HT := Lib.hid hrd
  obtain ⟨a2, cap2, rfl, hlc2, hcm2, hop2⟩ := hrd.open
  have HO2 := Lib.hid hop2; clear hop2 hrd
  go_wp2_with fail
  go_loopw [27] (fun i wr => ∃ k : Nat, k ≤ T.length ∧ i = .int .i64 k ∧ Below w2.heap.size w2 wr) (fun i _ => T.length - (intOf i).toNat)
  case atStart => exact ⟨0, Nat.zero_le _, rfl, Below.refl _ _⟩
  case round =>
    obtain ⟨k, hk, rfl, hbel⟩ := hrel
    by_cases hlt : k < T.length
    · obtain ⟨b, off, rfl, hb, hc⟩ := HO2.out k hlt
      have c1 : wr.cell? ⟨b, off + k, none⟩ = some (.int .i64 (T.getD k 0)) := (hbel.cell (p := ⟨b, off + k, none⟩) hb).trans (hc k hlt)
      obtain ⟨i, hi1, hi2, hi3⟩ := HM.out (T.getD k 0) (getD_mem T k hlt)
      obtain ⟨b', off', rfl, hb', hc'⟩ := HO.out i hi2
      have c2 : wr.cell? ⟨b', off' + i, none⟩ = some (.int .i64 (zs.getD i 0)) := (hbel.cell (p := ⟨b', off' + i, none⟩) (Nat.lt_of_lt_of_le hb' hB.size)).trans ((hB.cell (p := ⟨b', off' + i, none⟩) hb').trans (hc' i hi2))
      rw [hi1] at c1
      have hz : (zs.getD i 0 == 0) = false := by rw [beq_eq_false_iff_ne]; exact hi3
      clear hc hc' hi1 hi3
      generalize zs.getD i 0 = y at *
      go_wp2_with fail
      go_roundw
      case rel => exact ⟨k + 1, by omega, by go_num, hbel⟩
      case measure => simp [intOf]; omega
    · obtain rfl : k = T.length := by omega
      have hq : ((T.length : Int) == many) = true := by rw [beq_iff_eq]; exact HL.out
      go_wp2_with fail
      refine (issorted_yes _ T HP.out _ (HT.out.below hbel (Nat.le_refl _))).mono ?_
      rintro e w3 ⟨rfl, hb3⟩
      go_wp2_with fail
      go_ret
      exact ⟨rfl, (hB.trans (hbel.mono hB.size)).trans (hb3.mono (Nat.le_trans hB.size hbel.size))⟩
theorem walk (a0 : Option Addr) (len0 cap0 : Nat) (z0 : List Int) (a1 : Int) (a2 : Int) (w : World) (w0 : IsRow .i64 w a0 len0 cap0 z0) (w1 : (Lit.int .i64 a1).wf = true) (w2 : (Lit.int .i64 a2).wf = true) :
    Calls Try.prog 6 #[.slice a0 len0 cap0, .int .i64 a1, .int .i64 a2] w fun e w' => e = .returned (.bool true) ∧ Below w.heap.size w w' := by
  have h := w0.rd.1
  by_cases hg : Good (z0.take len0) a1 ∧ 0 ≤ a2 ∧ a2 < (z0.take len0).sum
  · exact walk_good _ _ _ _ w h hg.1 hg.2.1 hg.2.2
  · exact walk_bad _ _ _ _ w h hg
end Go.Proofs.Ythkbcgafpaomnaa.ppsMany
