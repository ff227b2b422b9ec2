/- ref.Mixed: what it answers. No condition. -/
import Derived.Test.YtkebahdapkjacaaLook
set_option linter.unusedSimpArgs false
set_option linter.unusedVariables false
namespace Go.Proofs.Ytkebahdapkjacaa
open Go.RowKit
def castL (l : List Nat) : List Int := l.map (fun z : Nat => (z : Int))
theorem castL_len (l : List Nat) : (castL l).length = l.length := List.length_map ..
theorem castL_app (l r : List Nat) : castL (l ++ r) = castL l ++ castL r := List.map_append ..
theorem castL_getD (l : List Nat) (i : Nat) : (castL l).getD i 0 = ((l.getD i 0 : Nat) : Int) := getD_cast l i
set_option maxHeartbeats 800000 in
theorem mixed_ok (x : Nat) (bs : List Nat) (v : Value) (w : World) (h : Rd w v (castL bs)) (hx : x < 4611686018427387904) (hb : ∀ b ∈ bs, 0 < b) (hl : bs.length ≤ 100) (hbm : ∀ b ∈ bs, b ≤ 1000) :
    Calls Try.prog 16 #[.int .i64 x, v] w fun e w' => Below w.heap.size w w' ∧ ∃ v', e = .returned v' ∧ w'.ownsRow w.heap.size 3 1 v' bs.length ((castL (mixF x bs)).map (Value.int .i64)) := by
  obtain ⟨i3, hi3, hz0, hz1, hz2⟩ := info_parts Try.info3
  obtain ⟨a, k, rfl, hk1, hk2⟩ := h.slice
  have HR := Lib.hid h
  have HB := Lib.hid hb
  have HBM := Lib.hid hbm
  have HM0 : Hid (mixF x bs = [] ++ mixF x (bs.drop 0)) := rfl
  rw [castL_len] at HR hk1 ⊢
  obtain ⟨m, hm⟩ : ∃ m, bs.length = m := ⟨_, rfl⟩
  have HLN := Lib.hid hm
  rw [hm] at HR hk1 hl ⊢
  unfold maxLen at hk2
  clear h hb hm hbm
  go_enter Try.func16, Try.ntmps16
  go_wp2_with fail
  go_loopw [10, 5, 0] (fun iv ov xv wr => ∃ i y : Nat, ∃ dn : List Nat, i ≤ m ∧ iv = .int .i64 i ∧ xv = .int .i64 y ∧ y ≤ x ∧ Hid (dn.length = i) ∧ Hid (mixF x bs = dn ++ mixF y (bs.drop i)) ∧ Hid (Below w.heap.size w wr) ∧ Hid (wr.ownsRow w.heap.size 3 1 ov i ((castL dn).map (Value.int .i64)))) (fun iv _ _ _ => m - (intOf iv).toNat)
  case atStart => exact ⟨0, x, [], Nat.zero_le _, rfl, rfl, Nat.le_refl _, rfl, HM0.out, Below.refl _ _, World.ownsRow_nil _ _ _ _⟩
  case round =>
    obtain ⟨i, y, dn, him, rfl, rfl, hyx, HDL, HMX, HBE, HO⟩ := hrel
    by_cases hlt : i < m
    · obtain ⟨b, off, rfl, hbl, cl⟩ := (HR.out.below HBE.out (Nat.le_refl _)).at hlt
      rw [castL_getD] at cl
      have hin : i < bs.length := by rw [HLN.out]; exact hlt
      have hbp : 0 < bs.getD i 0 := HB.out _ (by rw [List.getD_eq_getElem?_getD, List.getElem?_eq_getElem hin]; exact List.getElem_mem _)
      have hbb : bs.getD i 0 ≤ 1000 := HBM.out _ (by rw [List.getD_eq_getElem?_getD, List.getElem?_eq_getElem hin]; exact List.getElem_mem _)
      have HST : Hid (mixF x bs = (dn ++ [y % bs.getD i 0]) ++ mixF (y / bs.getD i 0) (bs.drop (i + 1))) := by
        show _ = _
        rw [HMX.out, List.drop_eq_getElem_cons hin, List.getD_eq_getElem?_getD, List.getElem?_eq_getElem hin]
        simp [mixF]
      generalize bs.getD i 0 = c at *
      have hc0 : ¬ (c : Int) = 0 := by omega
      have f1 : ((c : Int) == 0) = false := by rw [beq_eq_false_iff_ne]; exact hc0
      have f2 : ((c : Int) == -1) = false := by rw [beq_eq_false_iff_ne]; omega
      have hyc : y / c ≤ y := Nat.div_le_self _ _
      have hs1 := HBE.out.size
      have HWQ : Hid (wrap64 ((y : Int) / (c : Int)) = ((y / c : Nat) : Int)) := by
        show _ = _
        have e : ((y : Int) / (c : Int)) = ((y / c : Nat) : Int) := (Int.natCast_ediv y c).symm
        rw [e]
        have hq : y / c ≤ x := Nat.le_trans hyc hyx
        clear e hyc
        generalize y / c = q at hq ⊢
        unfold wrap64
        omega
      clear hin hbp
      go_wp2_with (at_builtin; go_must (refine push rfl _ _ 26 rfl w.heap.size 3 i3 (.int .i64 0) 8 Try.underlying26 hi3 hz0 hz1 hz2 rfl _ i ((castL dn).map (Value.int .i64)) rfl HO.out (.int .i64 ((y % c : Nat) : Int)) wr.heap.size rfl rfl rfl (by decide) (by omega) hs1 ?_))
      intro v2 w2 ho2 hg2
      have HB2 := Lib.hid (grown_below hg2 HO.out HBE.out (Nat.le_refl _) hs1)
      have HO2 : Hid (w2.ownsRow w.heap.size 3 1 v2 (i + 1) ((castL (dn ++ [y % c])).map (Value.int .i64))) := by rw [castL_app, List.map_append]; exact ho2
      clear hg2 ho2
      go_wp2_with fail
      go_roundw
      case rel => exact ⟨i + 1, y / c, dn ++ [y % c], by omega, by go_num, by rw [HWQ.out], Nat.le_trans hyc hyx, by show _ = _; rw [List.length_append, HDL.out]; rfl, HST.out, HB2.out, HO2.out⟩
      case measure => simp [intOf]; omega
    · obtain rfl : i = m := by omega
      have HE : Hid (mixF x bs = dn) := by
        show _ = _
        rw [HMX.out, List.drop_of_length_le (by rw [HLN.out]; exact Nat.le_refl _)]
        simp [mixF]
      obtain ⟨a2, k2, rfl⟩ := own_slice HO.out
      go_wp2_with fail
      go_ret
      exact ⟨HBE.out, _, rfl, by rw [HE.out]; exact HO.out⟩
end Go.Proofs.Ytkebahdapkjacaa
