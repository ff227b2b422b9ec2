/- lotdrawerref.Bits: the bits of a number, the greatest first. Condition: at most 2^20 of them. -/
import Derived.Test.YtoinpfcmolkhiaaDoorBl
set_option linter.unusedSimpArgs false
set_option linter.unusedVariables false
namespace Go.Proofs.YtoinpfcmolkhiaaDoor
open Go.RowKit
def bitf (x n k : Nat) : Bool := decide (x / 2 ^ (n - 1 - k) % 2 = 1)
set_option maxHeartbeats 800000 in
theorem bits_any (x n : Nat) (hn : n ≤ 1048576) (hx : x ≤ 9223372036854775807) (w : World) : Calls Tryd.prog 19 #[.int .i64 x, .int .i64 n] w fun e w' => Below w.heap.size w w' ∧ ∃ v, e = .returned v ∧ RdB w' v (tabB n (bitf x n)) := by
  obtain ⟨i0, hi, hz0, hz1, hz2⟩ := info_parts Tryd.info4t
  go_enter Tryd.func19, Tryd.ntmps19
  go_wp2_with (refine wpList_make_full _ rfl _ _ 26 rfl w.heap.size 4 i0 (.bool false) 1 Tryd.underlying26 hi hz0 hz1 .i64 .i64 _ _ n rfl rfl rfl rfl ?b2 ?b3 (Nat.le_refl _) ?_)
  case b2 => rw [hz2]; omega
  case b3 => unfold maxLen; omega
  intro w4 hown hgr
  have hB4 : Below w.heap.size w w4 := (Below.refl _ _).grown hgr (Nat.le_refl _) (fun k hk => by cases hk)
  clear hgr
  have ho := OB.made hown
  clear hown
  generalize hgg : w.heap.size = g at *
  have HGG := Lib.hid hgg; clear hgg
  have HO := Lib.hid ho; have HB := Lib.hid hB4
  clear ho hB4
  go_wp2_with fail
  go_loopw [0, 6] (fun xv iv wr => ∃ (i : Nat) (f : Nat → Bool), i ≤ n ∧ iv = .int .i64 ((i : Int) - 1) ∧ xv = .int .i64 (x / 2 ^ (n - i) : Nat) ∧ OB wr g g n f ∧ Hid (∀ j, i ≤ j → j < n → f j = bitf x n j) ∧ Below g w wr) (fun _ iv _ => (intOf iv + 1).toNat)
  case atStart => exact ⟨n, _, Nat.le_refl _, rfl, by rw [Nat.sub_self]; simp, HO.out, fun j h1 h2 => by omega, HB.out⟩
  case round =>
    clear HO HB
    obtain ⟨i, f, hin, rfl, rfl, ho, hf, hbel⟩ := hrel
    cases i with
    | zero =>
      rw [show ((0 : Nat) : Int) - 1 = -1 from rfl]
      have HR := Lib.hid (ho.congr (f' := bitf x n) fun j hj => hf.out j (Nat.zero_le _) hj).rd
      clear ho hf
      generalize x / 2 ^ (n - 0) = y at *
      go_wp2_with fail
      go_ret
      exact ⟨by rw [HGG.out]; exact hbel, _, rfl, HR.out⟩
    | succ q =>
      rw [show ((q + 1 : Nat) : Int) - 1 = (q : Int) by omega]
      have hy : Hid (x / 2 ^ (n - (q + 1)) / 2 = x / 2 ^ (n - q)) := by
        show _ = _
        rw [Nat.div_div_eq_div_mul, ← Nat.pow_succ, show (n - (q + 1)).succ = n - q by omega]
      have hbit : Hid (bitf x n q = decide (x / 2 ^ (n - (q + 1)) % 2 = 1)) := by
        show _ = _
        unfold bitf; rw [show n - 1 - q = n - (q + 1) by omega]
      have hyx : x / 2 ^ (n - (q + 1)) ≤ x := Nat.div_le_self _ _
      generalize x / 2 ^ (n - (q + 1)) = y at *
      have hy2 : (y : Int) ≤ 9223372036854775807 := by omega
      have hm : (y : Int) % 2 = ((y % 2 : Nat) : Int) := rfl
      have hd : (y : Int) / 2 = ((y / 2 : Nat) : Int) := rfl
      have HM := Lib.hid hm; have HD := Lib.hid hd
      clear hm hd
      have c0 := ho.get q (by omega)
      have cf := ho.frozen q
      by_cases hb : y % 2 = 1
      · have hb1 : ((y : Int) % 2 == 1) = true := by rw [beq_iff_eq]; omega
        have HO2 := Lib.hid (ho.set q true)
        have HB2 := Lib.hid (hbel.setCell (Nat.le_refl _) (p := ⟨g, q, none⟩) (.bool true))
        have HBT : Hid (bitf x n q = true) := by show _ = _; rw [hbit.out, hb]; rfl
        clear ho hbel hb hbit
        go_wp2_with fail
        go_roundw
        case rel => exact ⟨q, _, by omega, rfl, by rw [← hy.out]; rfl, HO2.out, fun j h1 h2 => by
          by_cases e : j = q
          · subst e; rw [if_pos rfl, HBT.out]
          · rw [if_neg e]; exact hf.out j (by omega) h2, HB2.out⟩
        case measure => simp [intOf]
      · have hb1 : ((y : Int) % 2 == 1) = false := by rw [beq_eq_false_iff_ne]; omega
        have HO2 := Lib.hid (ho.set q false)
        have HB2 := Lib.hid (hbel.setCell (Nat.le_refl _) (p := ⟨g, q, none⟩) (.bool false))
        have HBT : Hid (bitf x n q = false) := by show _ = _; rw [hbit.out]; simp [hb]
        clear ho hbel hb hbit
        go_wp2_with fail
        go_roundw
        case rel => exact ⟨q, _, by omega, rfl, by rw [← hy.out]; rfl, HO2.out, fun j h1 h2 => by
          by_cases e : j = q
          · subst e; rw [if_pos rfl, HBT.out]
          · rw [if_neg e]; exact hf.out j (by omega) h2, HB2.out⟩
        case measure => simp [intOf]
end Go.Proofs.YtoinpfcmolkhiaaDoor
