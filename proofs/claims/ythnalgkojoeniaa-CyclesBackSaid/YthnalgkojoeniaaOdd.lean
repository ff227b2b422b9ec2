/- cycles.Odd and cycles.Times: what they answer. No condition. -/
import Derived.Test.YthnalgkojoeniaaOf
import Derived.Test.YthnalgkojoeniaaOddL
import Derived.Test.YthnalgkojoeniaaTimesL
import Derived.RegionTactic
import Derived.BigRegion
set_option linter.unusedSimpArgs false
set_option linter.unusedVariables false
namespace Go.Proofs.Ythnalgkojoeniaa
open Go.RowKit
theorem OM.shape {w : World} {base : Nat} {mv : Value} {zss : List (List Int)} (h : OM w base mv zss) : ∃ a c, mv = .slice a zss.length c := by
  obtain ⟨a, c, rfl, _⟩ := h.rd
  exact ⟨a, c, rfl⟩
theorem odd_bad (v : Value) (zs : List Int) (w : World) (h : Rd w v zs) (hno : ¬ OkP zs) :
    Calls Try.prog 8 #[v] w fun e w' => Below w.heap.size w w' ∧ e = .returned (.tuple #[.bool false, .int .i64 1]) := by
  have HR := Lib.hid (of_bad v zs w h hno)
  obtain ⟨a, cap, rfl, hlc, hcm, -⟩ := h.open
  generalize zs.length = n at *
  clear h hno
  go_enter Try.func8, Try.ntmps8
  go_wp2_with fail
  refine HR.out.mono ?_
  rintro e w1 ⟨hb1, rfl⟩
  have HB1 := Lib.hid hb1
  clear hb1
  by_cases k : n % 2 = 0
  · have k1 : (n : Int) % 2 = 0 := by omega
    go_wp2_with fail
    go_ret2
    exact ⟨HB1.out, rfl⟩
  · have k1 : (n : Int) % 2 = 1 := by omega
    go_wp2_with fail
    go_ret2
    exact ⟨HB1.out, rfl⟩
theorem odd_ok (v : Value) (zs : List Int) (w : World) (h : Rd w v zs) (k1 : OkP zs) :
    Calls Try.prog 8 #[v] w fun e w' => Below w.heap.size w w' ∧ e = .returned (.tuple #[.bool (par (nd zs) zs.length), .int .i64 0]) := by
  have HR := Lib.hid (of_ok v zs w h k1)
  have hn := k1.1
  have hle := lows_le (nd zs) zs.length
  have HPAR : Hid (par (nd zs) zs.length = ((zs.length - (lows (nd zs) zs.length zs.length).length) % 2 != 0)) := rfl
  have HLEN : Hid ((rows (cyc (nd zs) zs.length zs.length)).length = (lows (nd zs) zs.length zs.length).length) := by
    show _ = _
    rw [rows_len, cyc, List.length_map]
  obtain ⟨a, cap, rfl, hlc, hcm, -⟩ := h.open
  generalize par (nd zs) zs.length = bv at *
  generalize (lows (nd zs) zs.length zs.length).length = L at *
  generalize rows (cyc (nd zs) zs.length zs.length) = zss at *
  generalize zs.length = n at *
  clear h k1
  go_enter Try.func8, Try.ntmps8
  go_wp2_with fail
  refine HR.out.mono ?_
  rintro e w1 ⟨hb1, u, rfl, hom⟩
  have HB1 := Lib.hid hb1
  obtain ⟨ua, uc, rfl⟩ := hom.shape
  rw [HLEN.out]
  clear hb1 hom
  obtain ⟨d, hd, hd2⟩ : ∃ d : Nat, (n : Int) - (L : Int) = (d : Int) ∧ d = n - L := ⟨n - L, by omega, rfl⟩
  have HD := Lib.hid hd2
  have hdl : d ≤ 20 := by omega
  clear hd2
  by_cases k : d % 2 = 0
  · have k1 : (d : Int) % 2 = 0 := by omega
    have HV : Hid (bv = false) := by show _ = _; rw [HPAR.out, ← HD.out, k]; rfl
    clear k HD
    go_wp2_with fail
    go_ret2
    exact ⟨HB1.out, by rw [HV.out]; rfl⟩
  · have k2 : d % 2 = 1 := by omega
    have k1 : (d : Int) % 2 = 1 := by omega
    have HV : Hid (bv = true) := by show _ = _; rw [HPAR.out, ← HD.out, k2]; rfl
    clear k k2 HD
    go_wp2_with fail
    go_ret2
    exact ⟨HB1.out, by rw [HV.out]; rfl⟩
theorem lcm_take (l : List Nat) (i : Nat) (h : i < l.length) : lcmL (l.take (i + 1)) 1 = Nat.lcm (lcmL (l.take i) 1) (l.getD i 0) := by
  have e : l.take (i + 1) = l.take i ++ [l.getD i 0] := by
    rw [List.take_add_one, List.getElem?_eq_getElem h, List.getD_eq_getElem?_getD, List.getElem?_eq_getElem h]; rfl
  rw [e, lcmL, List.foldl_append]; rfl
theorem sum_take_le : ∀ (l : List Nat) (i : Nat), (l.take i).sum ≤ l.sum
  | [], _ => by simp
  | _ :: _, 0 => by simp
  | x :: l, i + 1 => by have := sum_take_le l i; simp; exact this
theorem _root_.Go.RowKit.Below.drew1 {B : Nat} {a w : World} (h : Below B a w) : Below B a w.drew := ⟨h.os, h.tape, h.output, h.size, h.block⟩
theorem times_bad (v : Value) (zs : List Int) (w : World) (h : Rd w v zs) (hno : ¬ OkP zs) :
    Calls Try.prog 12 #[v] w fun e w' => Below w.heap.size w w' ∧ e = .returned (.tuple #[.int .i64 0, .int .i64 1]) := by
  have HR := Lib.hid (of_bad v zs w h hno)
  obtain ⟨a, cap, rfl, hlc, hcm, -⟩ := h.open
  generalize zs.length = n at *
  clear h hno
  go_enter Try.func12, Try.ntmps12
  go_wp2_with fail
  refine HR.out.mono ?_
  rintro e w1 ⟨hb1, rfl⟩
  have HB1 := Lib.hid hb1
  clear hb1
  go_wp2_with fail
  go_ret2
  exact ⟨HB1.out, rfl⟩
set_option maxHeartbeats 1600000 in
theorem times_ok (v : Value) (zs : List Int) (w : World) (h : Rd w v zs) (k1 : OkP zs) :
    Calls Try.prog 12 #[v] w fun e w' => Below w.heap.size w w' ∧ e = .returned (.tuple #[.int .i64 (tms (nd zs) zs.length : Nat), .int .i64 0]) := by
  have HR := Lib.hid (of_ok v zs w h k1)
  have hn := k1.1
  have hle := lows_le (nd zs) zs.length
  obtain ⟨ls, hls⟩ : ∃ ls, lens (nd zs) zs.length zs.length = ls := ⟨_, rfl⟩
  have HLEN : Hid ((rows (cyc (nd zs) zs.length zs.length)).length = ls.length) := by
    show _ = _
    rw [rows_len, ← hls, lens, List.length_map]
  have HROW : Hid (∀ i, i < ls.length → ((rows (cyc (nd zs) zs.length zs.length)).getD i []).length = ls.getD i 0 ∧ 1 ≤ ls.getD i 0 ∧ ls.getD i 0 ≤ 20) := fun i hi => by
    have hi2 : i < (cyc (nd zs) zs.length zs.length).length := by rw [← hls, lens, List.length_map] at hi; exact hi
    have hm : ls.getD i 0 ∈ ls := by rw [List.getD_eq_getElem?_getD, List.getElem?_eq_getElem hi]; exact List.getElem_mem hi
    have hb := k1.pm.lens_mem (by rw [hls]; exact hm)
    refine ⟨?_, hb.1, by omega⟩
    rw [← hls, lens, rows, List.getD_eq_getElem?_getD, List.getD_eq_getElem?_getD, List.getElem?_map, List.getElem?_map, List.getElem?_eq_getElem hi2]
    simp [ints]
  have HT : Hid (tms (nd zs) zs.length = lcmL (ls.take ls.length) 1) := by show _ = _; rw [List.take_length, ← hls]; rfl
  have HBD : Hid (∀ i, 1 ≤ lcmL (ls.take i) 1 ∧ lcmL (ls.take i) 1 ≤ 1048576) := fun i => by
    have hpos : ∀ x ∈ ls.take i, 0 < x := fun x hx => (k1.pm.lens_mem (by rw [hls]; exact List.mem_of_mem_take hx)).1
    refine ⟨lcmL_pos _ 1 (by decide) hpos, Nat.le_trans (lcmL_le _ 1 0 (by decide) (by decide) hpos) ?_⟩
    rw [Nat.zero_add]
    have h1 := sum_take_le ls i
    have h2 := k1.pm.sum_lens zs.length (Nat.le_refl _)
    rw [hls] at h2
    have h3 : 2 ^ (ls.take i).sum ≤ 2 ^ 20 := Nat.pow_le_pow_right (by decide) (by omega)
    exact h3
  have HLT := Lib.hid (fun i hi => lcm_take ls i hi)
  generalize tms (nd zs) zs.length = T at *
  generalize rows (cyc (nd zs) zs.length zs.length) = zss at *
  have hl20 : ls.length ≤ 20 := by
    have := lows_le (nd zs) zs.length
    rw [← hls, lens, cyc, List.length_map, List.length_map]; omega
  clear h k1 hls hle
  generalize hm : ls.length = m at *
  clear hm
  go_enter Try.func12, Try.ntmps12
  go_wp2_with fail
  refine HR.out.mono ?_
  rintro e w1 ⟨hb1, u, rfl, hom⟩
  have HB1 := Lib.hid hb1
  obtain ⟨ua, uc, rfl, huc, huc2, hrow⟩ := hom.rd.open
  rw [HLEN.out] at huc hrow ⊢
  have HRW := Lib.hid hrow
  clear hb1 hom hrow
  go_wp2_with fail
  go_loopw [21, 6, 8, 9, 10] (fun iv nv _ _ _ wr => ∃ i N : Nat, i ≤ m ∧ iv = .int .i64 i ∧ nv = .int .i64 N ∧ Below w1.heap.size w1 wr ∧ Hid (N = lcmL (ls.take i) 1)) (fun iv _ _ _ _ _ => m - (intOf iv).toNat)
  case atStart => exact ⟨0, 1, Nat.zero_le _, rfl, rfl, Below.refl _ _, by show _ = _; simp [lcmL]⟩
  case round =>
    obtain ⟨i, N, hi, rfl, rfl, hbel, hN⟩ := hrel
    have HBE := Lib.hid hbel
    by_cases hlt : i < m
    · obtain ⟨b, off, U, rfl, hb, hc⟩ := HRW.out (by omega)
      obtain ⟨cx0, hrd⟩ := hc i hlt
      have cx := (World.cell?_of_block (hbel.block b hb)).trans cx0
      obtain ⟨r1, r2, r3⟩ := HROW.out i hlt
      obtain ⟨ra, rc, hUi, hrc, hrc2, -⟩ := hrd.open
      rw [hUi, r1] at cx
      rw [r1] at hrc
      have HL1 := Lib.hid (HLT.out i (by omega))
      have hb1 := HBD.out i
      have hb2 := HBD.out (i + 1)
      rw [← hN.out] at hb1
      rw [HL1.out, ← hN.out] at hb2
      obtain ⟨x, hx⟩ : ∃ x, ls.getD i 0 = x := ⟨_, rfl⟩
      rw [hx] at cx r2 r3 hrc hb2
      have HX := Lib.hid hx
      clear hc hrd r1 hUi hx hbel cx0
      obtain ⟨wo, hwo⟩ : ∃ wo, wo = wr := ⟨_, rfl⟩
      subst hwo
      go_wp2_with fail
      go_loopw [9, 10] (fun av bv wr => ∃ A B : Nat, av = .int .i64 A ∧ bv = .int .i64 B ∧ A ≤ 1048576 ∧ B ≤ 1048576 ∧ Below w1.heap.size w1 wr ∧ Hid (Nat.gcd A B = Nat.gcd N x) ∧ 0 < A) (fun _ bv _ => (intOf bv).toNat)
      case atStart => exact ⟨N, x, rfl, rfl, hb1.2, by omega, HBE.out, rfl, hb1.1⟩
      case round =>
        clear HBE
        obtain ⟨A, B, rfl, rfl, hA, hB, hbel, hg, h0⟩ := hrel
        have HBE := Lib.hid hbel
        clear hbel
        by_cases hB0 : 0 < B
        · have f1 : decide (0 < (B : Int)) = true := decide_eq_true (by omega)
          have hbne : ((B : Int) == 0) = false := by simp; omega
          have hml := Nat.mod_lt A hB0
          have HG : Hid (Nat.gcd B (A % B) = Nat.gcd N x) := by show _ = _; rw [← hg.out, Nat.gcd_comm B, ← Nat.gcd_rec, Nat.gcd_comm]
          have HC : Hid (∃ C : Nat, ((A : Int) % (B : Int)) = (C : Int) ∧ C = A % B) := ⟨_, rfl, rfl⟩
          go_wp2_with fail
          go_region
          go_wp2_with fail
          obtain ⟨C, hC, hC2⟩ := HC.out
          rw [hC]
          refine ⟨⟨B, C, rfl, rfl, hB, by omega, HBE.out.drew1, by rw [hC2]; exact HG, hB0⟩, ?_⟩
          subst hC2
          simp [intOf]; omega
        · obtain rfl : B = 0 := by omega
          have e := hg.out
          rw [Nat.gcd_zero_right] at e
          have hdv : N / A * x = Nat.lcm N x := by rw [e]; exact lcm_step N x
          obtain ⟨q, hq⟩ : ∃ q, N / A = q := ⟨_, rfl⟩
          have hq2 : (N : Int) / (A : Int) = (q : Int) := by rw [← hq]; rfl
          have hane : ((A : Int) == 0) = false := by simp; omega
          rw [hq] at hdv
          have hqx : (q : Int) * (x : Int) = ((Nat.lcm N x : Nat) : Int) := by rw [← hdv]; rfl
          have hql : q ≤ N := by rw [← hq]; exact Nat.div_le_self N A
          have HLX : Hid (Nat.lcm N x = lcmL (ls.take (i + 1)) 1) := by show _ = _; rw [HL1.out, hN.out, HX.out]
          generalize Nat.lcm N x = N' at *
          clear e hq hdv hg
          go_wp2_with fail
          exact ⟨⟨i + 1, N', by omega, by go_num, rfl, HBE.out, HLX⟩, by simp [intOf]; omega⟩
    · obtain rfl : i = m := by omega
      have HF : Hid (N = T) := by show _ = _; rw [hN.out, HT.out]
      clear hbel
      go_wp2_with fail
      go_ret2
      exact ⟨HB1.out.trans (HBE.out.mono HB1.out.size), by rw [HF.out]; rfl⟩
end Go.Proofs.Ythnalgkojoeniaa
