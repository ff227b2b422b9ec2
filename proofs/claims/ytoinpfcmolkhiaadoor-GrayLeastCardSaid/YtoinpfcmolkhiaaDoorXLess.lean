/- lotdrawerref.XLess: what it answers. Condition: the second is no shorter. -/
import Derived.Test.YtoinpfcmolkhiaaDoorLeastL
set_option linter.unusedSimpArgs false
set_option linter.unusedVariables false
namespace Go.Proofs.YtoinpfcmolkhiaaDoor
open Go.RowKit
set_option maxHeartbeats 800000 in
theorem xless_any (a1 a2 : Option Addr) (n c1 c2 : Nat) (xs ys : List Bool) (w : World) (h1 : RdB w (.slice a1 n c1) xs) (h2 : RdB w (.slice a2 n c2) ys) (hn : 0 < n) :
    Calls Tryd.prog 16 #[.slice a1 n c1, .slice a2 n c2] w fun e w' => e = .returned (.bool (ltb (fun i => xs.getD i false) (fun i => ys.getD i false) 0 n)) ∧ Below w.heap.size w w' := by
  obtain ⟨b1, o1, rfl, hb1, hc1⟩ := h1.at hn
  obtain ⟨b2, o2, rfl, hb2, hc2⟩ := h2.at hn
  obtain ⟨-, hm1, hm2⟩ := h1.lenEq
  have HC1 := Lib.hid hc1
  have HC2 := Lib.hid hc2
  have HS : Hid (∀ i m, ltb (fun i => xs.getD i false) (fun i => ys.getD i false) i (m + 1) = if xs.getD i false = ys.getD i false then ltb (fun i => xs.getD i false) (fun i => ys.getD i false) (i + 1) m else ys.getD i false) := fun i m => rfl
  generalize hL : ltb (fun i => xs.getD i false) (fun i => ys.getD i false) = L at *
  have HL0 : Hid (∀ i, L i 0 = false) := fun i => by rw [← hL]; rfl
  have hn2 : n ≤ 9223372036854775807 := by omega
  clear hc1 hc2 h1 h2 hL
  go_enter Tryd.func16, Tryd.ntmps16
  go_wp2_with fail
  go_loopw [8] (fun iv wr => ∃ i : Nat, i ≤ n ∧ iv = .int .i64 i ∧ Hid (L 0 n = L i (n - i)) ∧ Below w.heap.size w wr) (fun iv _ => n - (intOf iv).toNat)
  case atStart => exact ⟨0, Nat.zero_le _, rfl, rfl, Below.refl _ _⟩
  case round =>
    obtain ⟨i, hi, rfl, HLI, hbel⟩ := hrel
    by_cases hil : i < n
    · have hii : (i : Int) < (n : Int) := by omega
      have c1 : wr.cell? ⟨b1, o1 + i, none⟩ = some (.bool (xs.getD i false)) := (World.cell?_of_block (hbel.block b1 hb1)).trans (HC1.out i hil)
      have c2 : wr.cell? ⟨b2, o2 + i, none⟩ = some (.bool (ys.getD i false)) := (World.cell?_of_block (hbel.block b2 hb2)).trans (HC2.out i hil)
      have hs := HS.out i (n - (i + 1))
      rw [show n - (i + 1) + 1 = n - i by omega] at hs
      have HSI := Lib.hid hs
      clear hs
      generalize xs.getD i false = x at *
      generalize ys.getD i false = y at *
      have hnn : (0 ≤ (i : Int) ∧ (i : Int) < (n : Int)) = True := eq_true ⟨Int.natCast_nonneg _, hii⟩
      cases x <;> cases y
      · have hs := HSI.out
        rw [if_pos (by decide)] at hs
        have HLn := Lib.hid (HLI.out.trans hs)
        clear hs
        go_wp2_with fail
        go_quiet (fail)
        go_wp2_with fail
        go_roundw
        case rel => exact ⟨i + 1, by omega, by go_num, HLn.out, hbel.drewN _⟩
        case measure => simp [intOf]; omega
      · have hs := HSI.out
        rw [if_neg (by decide)] at hs
        have HLn := Lib.hid (HLI.out.trans hs)
        clear hs
        go_wp2_with fail
        go_quiet (fail)
        go_wp2_with fail
        go_ret
        exact ⟨by rw [HLn.out]; rfl, hbel.drewN _⟩
      · have hs := HSI.out
        rw [if_neg (by decide)] at hs
        have HLn := Lib.hid (HLI.out.trans hs)
        clear hs
        go_wp2_with fail
        go_quiet (fail)
        go_wp2_with fail
        go_ret
        exact ⟨by rw [HLn.out]; rfl, hbel.drewN _⟩
      · have hs := HSI.out
        rw [if_pos (by decide)] at hs
        have HLn := Lib.hid (HLI.out.trans hs)
        clear hs
        go_wp2_with fail
        go_quiet (fail)
        go_wp2_with fail
        go_roundw
        case rel => exact ⟨i + 1, by omega, by go_num, HLn.out, hbel.drewN _⟩
        case measure => simp [intOf]; omega
    · obtain rfl : i = n := by omega
      have hz := HL0.out i
      have HLn : Hid (L 0 i = false) := by show _ = _; rw [HLI.out, Nat.sub_self, hz]
      clear hz
      go_wp2_with fail
      go_ret
      exact ⟨by rw [HLn.out]; rfl, hbel⟩
end Go.Proofs.YtoinpfcmolkhiaaDoor
