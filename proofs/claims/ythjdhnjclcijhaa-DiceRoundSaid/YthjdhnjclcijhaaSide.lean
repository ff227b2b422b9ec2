/- slices.Max; the side of DiceRound. No condition. -/
import Derived.Test.YthjdhnjclcijhaaAl
import Derived.Test.YthjdhnjclcijhaaGroup
import Derived.StillTailTactics
set_option linter.unusedSimpArgs false
set_option linter.unusedVariables false
namespace Go.Proofs.Ythjdhnjclcijhaa
open Go.RowKit
def mxF (zs : List Int) : Nat → Int
  | 0 => zs.getD 0 0
  | i + 1 => if mxF zs i < zs.getD (i + 1) 0 then zs.getD (i + 1) 0 else mxF zs i
set_option maxHeartbeats 800000 in
theorem max_any (v : Value) (zs : List Int) (w : World) (h : Rd w v zs) (h0 : 0 < zs.length) : Calls Try.prog 14 #[v] w fun e w' => e = .returned (.int .i64 (mxF zs (zs.length - 1))) ∧ w' = w := by
  obtain ⟨a, cap, rfl, hlc, hcm, hop⟩ := h.open
  obtain ⟨b, off, rfl, hb, hc⟩ := hop 0 h0
  have HC := Lib.hid hc
  have c0 := hc 0 h0
  rw [Nat.add_zero] at c0
  have HM0 : Hid (mxF zs 0 = zs.getD 0 0) := rfl
  have HMS : Hid (∀ i, mxF zs (i + 1) = if mxF zs i < zs.getD (i + 1) 0 then zs.getD (i + 1) 0 else mxF zs i) := fun i => rfl
  clear h hop hc
  have f0 : decide ((zs.length : Int) < 1) = false := decide_eq_false (by omega)
  have f1 : decide (zs.length < 1) = false := decide_eq_false (by omega)
  have f2 : ¬ zs.length = 0 := by omega
  go_enter Try.func14, Try.ntmps14
  go_wp2_with fail
  clear c0
  go_loop [3, 4] (fun mv iv => ∃ i : Nat, i < zs.length ∧ iv = .int .i64 (i + 1 : Nat) ∧ mv = .int .i64 (mxF zs i)) (fun _ iv => zs.length - (intOf iv).toNat)
  case atStart => exact ⟨0, h0, rfl, by rw [HM0.out]; simp [List.getD_eq_getElem?_getD, List.getElem?_eq_getElem h0]⟩
  case round =>
    obtain ⟨i, hi, rfl, rfl⟩ := hrel
    by_cases hlt : i + 1 < zs.length
    · have c := HC.out (i + 1) hlt
      have hs := HMS.out i
      generalize zs.getD (i + 1) 0 = x at *
      by_cases hx : mxF zs i < x
      · rw [if_pos hx] at hs
        have HS := Lib.hid hs
        clear hs
        generalize mxF zs i = m at *
        go_wp2_with fail
        go_round
        case rel => exact ⟨i + 1, hlt, by go_num, by rw [HS.out]⟩
        case measure => simp [intOf]; omega
      · rw [if_neg hx] at hs
        have HS := Lib.hid hs
        clear hs
        generalize mxF zs i = m at *
        go_wp2_with fail
        go_round
        case rel => exact ⟨i + 1, hlt, by go_num, by rw [HS.out]⟩
        case measure => simp [intOf]; omega
    · have hz : i = zs.length - 1 := by omega
      have HZ := Lib.hid hz
      clear hz
      go_wp2_with fail
      go_ret
      exact ⟨by rw [← HZ.out]; rfl, rfl⟩
theorem wrap_two {m M n : Nat} (hm : m ≤ 50) (hM : M ≤ 6) (hs : (M : Int) + 1 + (m : Int) = (n : Int)) : IntKind.i64.wrap (IntKind.i64.wrap ((M : Int) + 1) + (m : Int)) = (n : Int) := by
  rw [IntKind.wrap_i64, IntKind.wrap_i64]; omega
def cntS (zs : List Int) (m i j : Nat) : Nat := tot (fun q => if nd zs q + m = j then 1 else 0) i
set_option maxHeartbeats 1600000 in
theorem side_any (v : Value) (zs : List Int) (g m M : Nat) (hm : m ≤ 50) (hM : M ≤ 6) (hmx : mxF zs (zs.length - 1) = M) (h0 : 0 < zs.length) (h6 : zs.length ≤ 6)
    (hin : ∀ i, i < zs.length → 0 ≤ zs.getD i 0 ∧ zs.getD i 0 ≤ M) (w : World) (h : Rd w v zs) (hk : w.cell? ⟨g, 0, none⟩ = some (.int .i64 m)) :
    Calls Try.prog 13 #[v, .pointer (some ⟨g, 0, none⟩)] w fun e w' => Below w.heap.size w w' ∧ ∃ u, e = .returned u ∧ Rd w' u (tabI (M + 1 + m) (cntS zs m zs.length)) := by
  obtain ⟨i0, hinfo, hz0, hz1, hz2⟩ := info_parts Try.info3t
  have HMX := Lib.hid (max_any v zs w.drew h h0)
  rw [hmx] at HMX
  obtain ⟨a, cap, rfl, hlc, hcm, hop⟩ := h.open
  have HO1 := Lib.hid hop
  have HIN := Lib.hid hin
  have hgl := World.block_lt_of_cell? w _ hk
  clear h hop hmx hin
  have HK := Lib.hid hk
  have hk' : w.drew.cell? ⟨g, 0, none⟩ = some (.int .i64 m) := hk
  have hs : (M : Int) + 1 + (m : Int) = ((M + 1 + m : Nat) : Int) := by omega
  have hnb : M + 1 + m ≤ 57 := by omega
  have HNG : Hid (M + 1 + m = M + 1 + m) := rfl
  generalize hN : M + 1 + m = n at *
  have HN := Lib.hid hN
  clear hN
  have b2 : i0.bytes * n ≤ 281474976710656 := by rw [hz2]; omega
  have b3 : n ≤ maxLen := by unfold maxLen; omega
  have HW := Lib.hid (wrap_two hm hM hs)
  go_enter Try.func13, Try.ntmps13
  go_wp2_with fail
  refine wp_region_still_tail 5 (by kernel_rfl) (by kernel_rfl) ?_
  simp only [List.take_succ_cons, List.take_zero, List.drop_succ_cons, List.drop_zero]
  still_step
  still_call HMX.out
  still_step
  still_step
  still_step
  refine wpStill_nil ?_
  change wpList _ _ _ _ _ w.drew
  refine wpList_make_full w.drew rfl _ _ 22 rfl w.heap.size 3 i0 (.int .i64 0) 1 Try.underlying22 hinfo hz0 hz1 .i64 .i64 _ _ n rfl rfl ?hL ?hC b2 b3 (Nat.le_refl _) ?_
  case hL => exact HW.out
  case hC => exact HW.out
  intro w2 hown hgr
  have hb2 : Below w.heap.size w w2 := ((Below.refl w.heap.size w).drew).grown hgr (Nat.le_refl _) (fun k hk => by cases hk)
  have HB2 := Lib.hid hb2
  rw [Nat.mul_one] at hown
  have HO := Lib.hid (OI.made (g := w.heap.size) hown)
  have HK2 := Lib.hid (((bcell hb2).1 g 0 hgl).trans hk)
  clear hown hgr hb2 b2 b3 hk hk' HK HMX
  go_wp2_with fail
  go_loopw [15] (fun iv wr => ∃ i : Nat, i ≤ zs.length ∧ iv = .int .i64 i ∧ Below w.heap.size w wr ∧ wr.cell? ⟨g, 0, none⟩ = some (.int .i64 m) ∧ OI wr w.heap.size w.heap.size n (fun j => cntS zs m i j)) (fun iv _ => zs.length - (intOf iv).toNat)
  case atStart => exact ⟨0, Nat.zero_le _, rfl, HB2.out, HK2.out, HO.out.congr (fun j _ => rfl)⟩
  case round =>
    clear HB2 HO
    obtain ⟨i, hi, rfl, hbel, hkk, ho⟩ := hrel
    by_cases hlt : i < zs.length
    · obtain ⟨b, off, rfl, hbl, hc⟩ := HO1.out i hlt
      have c := (World.cell?_of_block (hbel.block b hbl)).trans (hc i hlt)
      obtain ⟨r1, r2⟩ := HIN.out i hlt
      have hnd : zs.getD i 0 = (nd zs i : Nat) := by unfold nd; omega
      have hndb : nd zs i ≤ M := by omega
      rw [hnd] at c
      have hj : nd zs i + m < n := by have := HN.out; omega
      have c1 := ho.get (nd zs i + m) hj
      have fr := ho.frozen (nd zs i + m)
      have hcb : cntS zs m i (nd zs i + m) ≤ i := by
        have := tot_le (f := fun q => if nd zs q + m = nd zs i + m then 1 else 0) (k := i) (c := 1) (fun q _ => by split <;> omega)
        unfold cntS; omega
      have HS := Lib.hid (OI.congr (ho.set (nd zs i + m) (cntS zs m i (nd zs i + m) + 1)) (f' := fun j => cntS zs m (i + 1) j) (fun j _ => by
        show _ = cntS zs m i j + if nd zs i + m = j then 1 else 0
        by_cases e : j = nd zs i + m
        · subst e; rw [if_pos rfl, if_pos rfl]
        · rw [if_neg e, if_neg (fun h => e h.symm)]; rfl))
      have HBS := Lib.hid (hbel.setCell (Nat.le_refl _) (p := ⟨w.heap.size, nd zs i + m, none⟩) (.int .i64 ((cntS zs m i (nd zs i + m) + 1 : Nat) : Int)))
      have HKS := Lib.hid ((World.cell?_setCell_other (w := wr) (a := ⟨w.heap.size, nd zs i + m, none⟩) (b := ⟨g, 0, none⟩) (.int .i64 ((cntS zs m i (nd zs i + m) + 1 : Nat) : Int)) (fun e => absurd (congrArg Addr.block e) (by show ¬ w.heap.size = g; omega))).trans hkk)
      have hxm : (nd zs i : Int) + (m : Int) = ((nd zs i + m : Nat) : Int) := by omega
      clear hc hnd r1 r2 ho hbel
      generalize cntS zs m i (nd zs i + m) = y at *
      generalize nd zs i + m = xm at *
      generalize nd zs i = x at *
      go_wp2_with fail
      exact ⟨⟨i + 1, by omega, by go_num, HBS.out, HKS.out, HS.out⟩, by simp [intOf]; omega⟩
    · obtain rfl : i = zs.length := by omega
      have hrd := ho.rd
      have HR := Lib.hid hrd
      have HBE := Lib.hid hbel
      clear ho hrd hbel
      go_wp2_with fail
      go_ret
      exact ⟨HBE.out, _, rfl, HR.out⟩
end Go.Proofs.Ythjdhnjclcijhaa
