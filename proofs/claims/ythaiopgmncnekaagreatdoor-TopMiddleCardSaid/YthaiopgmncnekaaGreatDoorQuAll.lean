/- quant.All: what it answers. Condition: a row within the reach. -/
import Derived.Test.YthaiopgmncnekaaGreatDoorQuInv
set_option linter.unusedSimpArgs false
set_option linter.unusedVariables false
set_option maxRecDepth 20000
namespace Go.Proofs.YthaiopgmncnekaaGreatDoor.Qu
open Go.RowKit
def allF (p : Int) : List Rk → List Int → Option (List Rk)
  | l, [] => some l
  | l, x :: r => if l.length = 400 ∨ cnt l = 1099511627776 then none else allF p (addL p l x) r
/-- What All answers. -/
def AllR (p : Int) (zs : List Int) (w0 : World) (e : Ending) (w' : World) : Prop :=
  Below w0.heap.size w0 w' ∧ ((1 ≤ p ∧ p ≤ 100 ∧ ∃ l v', allF p [] zs = some l ∧ e = .returned (.tuple #[v', .int .i64 0]) ∧ Own w' w0.heap.size v' l ∧ Inv p zs l ∧ l.length ≤ 400 ∧ cnt l ≤ 1099511627776) ∨
    ((¬ (1 ≤ p ∧ p ≤ 100) ∨ allF p [] zs = none) ∧ ∃ er : Nat, er ≠ 0 ∧ e = .returned (.tuple #[.slice none 0 0, .int .i64 er])))
theorem drop_one (zs : List Int) (i : Nat) (h : i < zs.length) : zs.drop i = zs.getD i 0 :: zs.drop (i + 1) := by
  rw [List.drop_eq_getElem_cons h, List.getD_eq_getElem?_getD, List.getElem?_eq_getElem h]; rfl
theorem take_one (zs : List Int) (i : Nat) (h : i < zs.length) : zs.take (i + 1) = zs.take i ++ [zs.getD i 0] := by
  rw [List.take_add_one, List.getElem?_eq_getElem h, List.getD_eq_getElem?_getD, List.getElem?_eq_getElem h]; rfl
set_option maxHeartbeats 800000 in
theorem all_bad (p : Int) (v : Value) (zs : List Int) (w : World) (hp : ¬ (1 ≤ p ∧ p ≤ 100)) : Calls Tryz.prog 7 #[.int .i64 p, v] w (AllR p zs w) := by
  by_cases h1 : p < 1
  · have t1 : decide (p < 1) = true := decide_eq_true h1
    have HP := Lib.hid hp
    clear hp
    go_enter Tryz.func7, Tryz.ntmps7
    go_wp2_with fail
    go_ret2
    exact ⟨Below.refl _ _, .inr ⟨.inl HP.out, 2, by decide, rfl⟩⟩
  · have t1 : decide (p < 1) = false := decide_eq_false h1
    have t2 : decide (100 < p) = true := decide_eq_true (by omega)
    have HP := Lib.hid hp
    clear hp
    go_enter Tryz.func7, Tryz.ntmps7
    go_wp2_with fail
    go_ret2
    exact ⟨Below.refl _ _, .inr ⟨.inl HP.out, 2, by decide, rfl⟩⟩
set_option maxHeartbeats 1600000 in
theorem all_good (p : Int) (v : Value) (zs : List Int) (w : World) (h : Rd w v zs) (hp1 : 1 ≤ p) (hp2 : p ≤ 100) : Calls Tryz.prog 7 #[.int .i64 p, v] w (AllR p zs w) := by
  obtain ⟨a, cap, rfl, hlc, hcm, hop⟩ := h.open
  generalize hn : zs.length = n at *
  have HN := Lib.hid hn
  have HO := Lib.hid hop
  have t1 : decide (p < 1) = false := decide_eq_false (by omega)
  have t2 : decide (100 < p) = false := decide_eq_false (by omega)
  have HI0 : Hid (Inv p (zs.take 0) []) := Inv.nil p
  clear h hop hn
  go_enter Tryz.func7, Tryz.ntmps7
  go_wp2_with fail
  clear t1 t2
  go_loopw [6, 19] (fun v iv wr => ∃ (i : Nat) (l : List Rk) (a' : Option Addr) (n' cap' : Nat), i ≤ n ∧ iv = .int .i64 i ∧ v = .slice a' n' cap' ∧ n' ≤ 400 ∧ Hid (l.length = n') ∧ Hid (Own wr w.heap.size (.slice a' n' cap') l) ∧ Hid (Inv p (zs.take i) l) ∧ Hid (cnt l ≤ 1099511627776) ∧ Hid (allF p [] zs = allF p l (zs.drop i)) ∧ Hid (Below w.heap.size w wr)) (fun _ iv _ => n - (intOf iv).toNat)
  case atStart => exact ⟨0, [], none, 0, 0, Nat.zero_le _, rfl, rfl, by omega, rfl, Own.nil _ _, HI0.out, by show (0 : Int) ≤ _; omega, rfl, Below.refl _ _⟩
  case round =>
    clear HI0
    obtain ⟨i, l, a', n', cap', hi, rfl, rfl, hn4, HN', HOW, HI, HC, HA, HB⟩ := hrel
    by_cases hin : i < n
    · obtain ⟨b, off, rfl, hb, hc⟩ := HO.out i hin
      have c0 : wr.cell? ⟨b, off + i, none⟩ = some (.int .i64 (zs.getD i 0)) := (World.cell?_of_block (HB.out.block b hb)).trans (hc i hin)
      have hR : RightP p l := HI.out.right hp1 hp2 (by rw [HN'.out]; exact hn4) HC.out
      have hD := drop_one zs i (by rw [HN.out]; exact hin)
      by_cases hF : n' = 400 ∨ cnt l = 1099511627776
      · have HX := Lib.hid (add_full p (zs.getD i 0) a' n' cap' w.heap.size l wr HOW.out HN'.out hR hF)
        have HNO : Hid (allF p [] zs = none) := by show _ = _; rw [HA.out, hD, allF, HN'.out, if_pos hF]
        clear hc hR hD hF
        generalize zs.getD i 0 = x at *
        go_wp2_with fail
        refine HX.out.mono ?_
        rintro e w2 ⟨rfl, hb2⟩
        have HB2 := Lib.hid (HB.out.trans (hb2.mono HB.out.size))
        clear hb2 HX
        go_wp2_with fail
        go_ret2
        exact ⟨HB2.out, .inr ⟨.inr HNO.out, 4, by decide, rfl⟩⟩
      · have hcl := HI.out.all
        have hml := HI.out.moreF_le hp1 (zs.getD i 0)
        obtain ⟨hin2, hle2, hm0⟩ := HI.out.add hp1 (zs.getD i 0)
        have hcc := HC.out
        have HX := Lib.hid (add_any p (zs.getD i 0) a' n' cap' w.heap.size l wr HOW.out HN'.out hR (by omega) (by omega) ⟨hm0, by omega⟩)
        rw [← take_one zs i (by rw [HN.out]; exact hin)] at hin2
        have HA2 : Hid (allF p [] zs = allF p (addL p l (zs.getD i 0)) (zs.drop (i + 1))) := by show _ = _; rw [HA.out, hD, allF, HN'.out, if_neg hF]
        have HI2 := Lib.hid hin2
        have HC2 : Hid (cnt (addL p l (zs.getD i 0)) ≤ 1099511627776) := by
          have h8 := hin2.all
          show _ ≤ _
          rw [h8, take_one zs i (by rw [HN.out]; exact hin), List.length_append, List.length_singleton]
          omega
        have HL2 : Hid ((addL p l (zs.getD i 0)).length ≤ 400) := by show _ ≤ _; rw [HN'.out] at hle2; omega
        clear hc hR hD hF hcl hml hin2 hle2 hm0 hcc
        generalize zs.getD i 0 = x at *
        go_wp2_with fail
        refine HX.out.mono ?_
        rintro e w2 ⟨v2, rfl, ho2, hb2⟩
        have HB2 := Lib.hid (HB.out.trans (hb2.mono HB.out.size))
        have HO2 := Lib.hid (ho2.base HB.out.size)
        clear ho2 hb2 HX
        go_wp2_with fail
        obtain ⟨a2, cap2, rfl, -⟩ := HO2.out.open
        go_roundw
        case rel => exact ⟨i + 1, _, _, _, _, by omega, by go_num, rfl, HL2.out, rfl, HO2.out, HI2.out, HC2.out, HA2.out, HB2.out⟩
        case measure => simp [intOf]; omega
    · obtain rfl : i = n := by omega
      have HE : Hid (allF p [] zs = some l) := by show _ = _; rw [HA.out, List.drop_of_length_le (by rw [HN.out]; exact Nat.le_refl _)]; rfl
      have HI2 : Hid (Inv p zs l) := by
        have := HI.out
        rwa [List.take_of_length_le (by rw [HN.out]; exact Nat.le_refl _)] at this
      go_wp2_with fail
      go_ret2
      exact ⟨HB.out, .inl ⟨hp1, hp2, l, _, HE.out, rfl, HOW.out, HI2.out, by rw [HN'.out]; exact hn4, HC.out⟩⟩
theorem all_any (p : Int) (v : Value) (zs : List Int) (w : World) (h : Rd w v zs) : Calls Tryz.prog 7 #[.int .i64 p, v] w (AllR p zs w) := by
  by_cases hp : 1 ≤ p ∧ p ≤ 100
  · exact all_good p v zs w h hp.1 hp.2
  · exact all_bad p v zs w hp
end Go.Proofs.YthaiopgmncnekaaGreatDoor.Qu
