/- The walk of GrayOne. Condition: the table of math/bits is as its initialiser lays it. -/
import Derived.Test.YtoinpfcmolkhiaaDoorAl
set_option linter.unusedSimpArgs false
set_option linter.unusedVariables false
namespace Go.Proofs.YtoinpfcmolkhiaaDoor.grayOne
open Go.RowKit Go.Proofs.YtoinpfcmolkhiaaDoor
attribute [local go_sem] xor_U
theorem add1 (x : BitVec 64) : IntKind.u64.wrap (U x + 1) = U (x + 1#64) := add_U x 1
attribute [local go_sem] add1
theorem shl_one : ∀ t : Fin 64, (U (1#64 <<< t.val) == IntKind.u64.wrap ((2 : Int) ^ t.val)) = true := by decide +kernel
theorem bne_U (x y : BitVec 64) : (U x != U y) = !(U x == U y) := rfl
set_option maxHeartbeats 1600000 in
theorem walk (a0 a1 : Int) (w : World) (hT : TabAt w) (w0 : (Lit.int .u64 a0).wf = true) (w1 : (Lit.int .u64 a1).wf = true) :
    Calls Tryd.prog 6 #[.int .u64 a0, .int .u64 a1] w fun e w' => e = .returned (.bool true) ∧ Below w.heap.size w w' := by
  obtain ⟨x, rfl⟩ := U_of w0
  obtain ⟨y, rfl⟩ := U_of w1
  have hx1 : (U (place (code x)) != U x) = false := by rw [place_code]; simp
  have hx2 : (U (code (place x)) != U x) = false := by rw [code_place]; simp
  have hx3 : (U (code x) == U (code y)) = (U x == U y) := by
    rw [Bool.eq_iff_iff, beq_iff_eq, beq_iff_eq, U_inj, U_inj, code_inj]
  have H1 := Lib.hid hx1
  have H2 := Lib.hid hx2
  have H3 := Lib.hid hx3
  have HT := Lib.hid hT
  clear w0 w1 hx1 hx2 hx3 hT
  go_enter Tryd.func6, Tryd.ntmps6
  go_wp2_with fail
  refine (alive_any w HT.out).mono ?_
  rintro e w1 ⟨rfl, hb⟩
  have HB := Lib.hid hb
  have HT1 := Lib.hid (HT.out.below hb)
  clear hb
  go_wp2_with fail
  by_cases hm : x = 18446744073709551615#64
  · have HFL : Hid (Calls Tryd.prog 17 #[.int .u64 (U x)] w1 fun e w' => e = .returned (.tuple #[.int .i64 0, .int .i64 3]) ∧ w1 = w') := by
      show Calls _ _ _ _ _
      rw [hm]; exact flip_none w1
    have hU : (U x == 18446744073709551615) = true := by rw [hm]; rfl
    clear hm
    refine HFL.out.mono ?_
    rintro e w' ⟨rfl, rfl⟩
    go_wp2_with fail
    refine (code_any _ _).mono ?_
    rintro e w' ⟨rfl, rfl⟩
    go_wp2_with fail
    refine (place_any _ _).mono ?_
    rintro e w' ⟨rfl, rfl⟩
    have h1 := H1.out
    go_wp2_with fail
    refine (place_any _ _).mono ?_
    rintro e w' ⟨rfl, rfl⟩
    go_wp2_with fail
    refine (code_any _ _).mono ?_
    rintro e w' ⟨rfl, rfl⟩
    have h2 := H2.out
    go_wp2_with fail
    refine (code_any _ _).mono ?_
    rintro e w' ⟨rfl, rfl⟩
    go_wp2_with fail
    refine (code_any _ _).mono ?_
    rintro e w' ⟨rfl, rfl⟩
    have h3 := H3.out
    have h4 : ((U x == U y) != (U x == U y)) = false := by simp
    go_wp2_with fail
    go_ret
    exact ⟨rfl, HB.out⟩
  · have hlt : x.toNat < 18446744073709551615 := by
      have := x.isLt
      rcases Nat.lt_or_ge x.toNat 18446744073709551615 with h | h
      · exact h
      · exact absurd (BitVec.eq_of_toNat_eq (show x.toNat = (18446744073709551615#64).toNat by rw [show (18446744073709551615#64).toNat = 18446744073709551615 from rfl]; omega)) hm
    have hU : (U x == 18446744073709551615) = false := by rw [beq_eq_false_iff_ne]; unfold U; omega
    obtain ⟨hN, ht⟩ := code_next x hlt
    have HFL := Lib.hid (flip_some x.toNat hlt w1 HT1.out)
    generalize Lib.ctz 64 (x.toNat + 1) = t at *
    have HN := Lib.hid hN
    have HON := Lib.hid (ones_pow ⟨t, ht⟩)
    clear hm hlt hN
    refine HFL.out.mono ?_
    rintro e w' ⟨rfl, rfl⟩
    go_wp2_with fail
    refine (code_any _ _).mono ?_
    rintro e w' ⟨rfl, rfl⟩
    go_wp2_with fail
    refine (place_any _ _).mono ?_
    rintro e w' ⟨rfl, rfl⟩
    have h1 := H1.out
    go_wp2_with fail
    refine (place_any _ _).mono ?_
    rintro e w' ⟨rfl, rfl⟩
    go_wp2_with fail
    refine (code_any _ _).mono ?_
    rintro e w' ⟨rfl, rfl⟩
    have h2 := H2.out
    go_wp2_with fail
    refine (code_any _ _).mono ?_
    rintro e w' ⟨rfl, rfl⟩
    go_wp2_with fail
    refine (code_any _ _).mono ?_
    rintro e w' ⟨rfl, rfl⟩
    have h3 := H3.out
    have h4 : ((U x == U y) != (U x == U y)) = false := by simp
    go_wp2_with fail
    refine (code_any _ _).mono ?_
    rintro e w' ⟨rfl, rfl⟩
    go_wp2_with fail
    refine (code_any _ _).mono ?_
    rintro e w' ⟨rfl, rfl⟩
    go_wp2_with fail
    rw [HN.out]
    refine (ones_any _ _).mono ?_
    rintro e w' ⟨rfl, rfl⟩
    rw [HON.out]
    have ht0 : t < 64 := ht
    go_wp2_with fail
    go_ret
    exact ⟨by simp [shl_one ⟨t, ht0⟩], HB.out⟩
end Go.Proofs.YtoinpfcmolkhiaaDoor.grayOne
