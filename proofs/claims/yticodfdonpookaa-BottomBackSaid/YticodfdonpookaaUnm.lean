/- bottom.Unmix: what it answers; it undoes Mix. No condition. -/
import Derived.Test.YticodfdonpookaaMx
set_option linter.unusedSimpArgs false
set_option linter.unusedVariables false
namespace Go.Proofs.Yticodfdonpookaa
open Go.RowKit
attribute [local go_sem] xor_U
def fsh (k : Nat) (x : BitVec 64) : BitVec 64 := x ^^^ x >>> k
def unsh (k : Nat) (x : BitVec 64) : BitVec 64 := x ^^^ (x ^^^ (x ^^^ x >>> k) >>> k) >>> k
theorem fsh_unsh {k : Nat} (hk : 16 ≤ k) (x : BitVec 64) : fsh k (unsh k x) = x := by
  unfold fsh unsh
  apply BitVec.eq_of_getLsbD_eq
  intro i hi
  simp only [BitVec.getLsbD_xor, BitVec.getLsbD_ushiftRight]
  have h4 : x.getLsbD (k + (k + (k + (k + i)))) = false := BitVec.getLsbD_of_ge _ _ (by omega)
  rw [h4]
  generalize x.getLsbD i = a
  generalize x.getLsbD (k + i) = b
  generalize x.getLsbD (k + (k + i)) = c
  generalize x.getLsbD (k + (k + (k + i))) = d
  cases a <;> cases b <;> cases c <;> cases d <;> rfl
def unmix (x : BitVec 64) : BitVec 64 := unsh 30 (unsh 27 (unsh 31 x * 3573116690164977347#64) * 10871156337175269513#64)
theorem mix_unmix (x : BitVec 64) : mix (unmix x) = x := by
  have e : ∀ y, mix y = fsh 31 (fsh 27 (fsh 30 y * 13787848793156543929#64) * 10723151780598845931#64) := fun y => rfl
  rw [e]
  unfold unmix
  rw [fsh_unsh (by decide), BitVec.mul_assoc, show (10871156337175269513#64 * 13787848793156543929#64) = 1#64 by decide +kernel, BitVec.mul_one, fsh_unsh (by decide), BitVec.mul_assoc, show (3573116690164977347#64 * 10723151780598845931#64) = 1#64 by decide +kernel, BitVec.mul_one, fsh_unsh (by decide)]
theorem unmix_mix (x : BitVec 64) : unmix (mix x) = x := mix_inj (mix_unmix _)
theorem unsh31 (x : BitVec 64) (w : World) : Calls Try.prog 29 #[.int .u64 (U x), .int .i64 31] w fun e w' => e = .returned (.int .u64 (U (unsh 31 x))) ∧ w = w' := by
  go_enter Try.func29, Try.ntmps29
  go_wp2_with fail
  refine wp_loop_rounds 4 ?_; rw [rounds_succ]
  go_wp2_with fail
  rw [rounds_succ]
  go_wp2_with fail
  rw [rounds_succ]
  go_wp2_with fail
  rw [rounds_succ]
  go_wp2_with fail
  go_ret
  exact ⟨by simp only [d30, d27, d31, xor_U]; rfl, rfl⟩
theorem unsh27 (x : BitVec 64) (w : World) : Calls Try.prog 29 #[.int .u64 (U x), .int .i64 27] w fun e w' => e = .returned (.int .u64 (U (unsh 27 x))) ∧ w = w' := by
  go_enter Try.func29, Try.ntmps29
  go_wp2_with fail
  refine wp_loop_rounds 4 ?_; rw [rounds_succ]
  go_wp2_with fail
  rw [rounds_succ]
  go_wp2_with fail
  rw [rounds_succ]
  go_wp2_with fail
  rw [rounds_succ]
  go_wp2_with fail
  go_ret
  exact ⟨by simp only [d30, d27, d31, xor_U]; rfl, rfl⟩
theorem unsh30 (x : BitVec 64) (w : World) : Calls Try.prog 29 #[.int .u64 (U x), .int .i64 30] w fun e w' => e = .returned (.int .u64 (U (unsh 30 x))) ∧ w = w' := by
  go_enter Try.func29, Try.ntmps29
  go_wp2_with fail
  refine wp_loop_rounds 4 ?_; rw [rounds_succ]
  go_wp2_with fail
  rw [rounds_succ]
  go_wp2_with fail
  rw [rounds_succ]
  go_wp2_with fail
  rw [rounds_succ]
  go_wp2_with fail
  go_ret
  exact ⟨by simp only [d30, d27, d31, xor_U]; rfl, rfl⟩
theorem inv_gen (a : Int) (X P Q : Nat → Int) (h0 : X 0 = a) (hp : ∀ k, IntKind.u64.wrap (a * X k) = P k) (hq : ∀ k, IntKind.u64.wrap (2 - P k) = Q k) (hx : ∀ k, IntKind.u64.wrap (X k * Q k) = X (k + 1)) (w : World) :
    Calls Try.prog 30 #[.int .u64 a] w fun e w' => e = .returned (.int .u64 (X 6)) ∧ w = w' := by
  have HP := Lib.hid hp
  have HQ := Lib.hid hq
  have HX := Lib.hid hx
  have H0 := Lib.hid h0
  clear hp hq hx h0
  go_enter Try.func30, Try.ntmps30
  go_wp2_with fail
  go_loopw [5, 3] (fun iv xv wr => ∃ (k : Nat) (x : Int), k ≤ 6 ∧ iv = .int .i64 k ∧ xv = .int .u64 x ∧ Hid (x = X k) ∧ wr = w) (fun iv _ _ => 6 - (intOf iv).toNat)
  case atStart => exact ⟨0, a, by omega, rfl, rfl, H0.out.symm, rfl⟩
  case round =>
    obtain ⟨k, x, hk, rfl, rfl, HXK, rfl⟩ := hrel
    by_cases hk6 : k < 6
    · have y1 := HP.out k
      have y2 := HQ.out k
      have y3 := HX.out k
      rw [← HXK.out] at y1 y3
      obtain ⟨x', hx'⟩ : ∃ z, X (k + 1) = z := ⟨_, rfl⟩
      rw [hx'] at y3
      have HN : Hid (x' = X (k + 1)) := hx'.symm
      generalize P k = p at *
      generalize Q k = q at *
      have hkI : (k : Int) < 6 := by omega
      clear hx'
      go_wp2_with fail
      go_roundw
      case rel => exact ⟨k + 1, x', by omega, by go_num, rfl, HN.out, trivial⟩
      case measure => simp [intOf]; omega
    · obtain rfl : k = 6 := by omega
      have HF : Hid (X 6 = x) := HXK.out.symm
      clear HXK
      go_wp2_with fail
      go_ret
      exact ⟨by show Ending.returned (.int .u64 x) = _; rw [HF.out], rfl⟩
def xs6 (a : Int) : Nat → Int
  | 0 => a
  | k + 1 => IntKind.u64.wrap (xs6 a k * IntKind.u64.wrap (2 - IntKind.u64.wrap (a * xs6 a k)))
theorem inv1 (w : World) : Calls Try.prog 30 #[.int .u64 13787848793156543929] w fun e w' => e = .returned (.int .u64 10871156337175269513) ∧ w = w' := by
  have := inv_gen 13787848793156543929 (xs6 13787848793156543929) _ _ rfl (fun _ => rfl) (fun _ => rfl) (fun _ => rfl) w
  rw [show xs6 13787848793156543929 6 = 10871156337175269513 by decide +kernel] at this
  exact this
theorem inv2 (w : World) : Calls Try.prog 30 #[.int .u64 10723151780598845931] w fun e w' => e = .returned (.int .u64 3573116690164977347) ∧ w = w' := by
  have := inv_gen 10723151780598845931 (xs6 10723151780598845931) _ _ rfl (fun _ => rfl) (fun _ => rfl) (fun _ => rfl) w
  rw [show xs6 10723151780598845931 6 = 3573116690164977347 by decide +kernel] at this
  exact this
theorem unmix_any (x : BitVec 64) (w : World) : Calls Try.prog 16 #[.int .u64 (U x)] w fun e w' => e = .returned (.int .u64 (U (unmix x))) ∧ w = w' := by
  have m1 := mul_U (unsh 31 x) 3573116690164977347
  obtain ⟨y, hy⟩ : ∃ y, unsh 31 x * BitVec.ofNat 64 3573116690164977347 = y := ⟨_, rfl⟩
  rw [hy] at m1
  have m2 := mul_U (unsh 27 y) 10871156337175269513
  obtain ⟨z, hz⟩ : ∃ z, unsh 27 y * BitVec.ofNat 64 10871156337175269513 = z := ⟨_, rfl⟩
  rw [hz] at m2
  have m1' : IntKind.u64.wrap (U (unsh 31 x) * (3573116690164977347 : Int)) = U y := m1
  have m2' : IntKind.u64.wrap (U (unsh 27 y) * (10871156337175269513 : Int)) = U z := m2
  have HF : Hid (unmix x = unsh 30 z) := by
    show _ = _
    rw [← hz, ← hy]; rfl
  have H31 := Lib.hid (fun w => unsh31 x w)
  have H27 := Lib.hid (fun w => unsh27 y w)
  have H30 := Lib.hid (fun w => unsh30 z w)
  rw [HF.out]
  clear m1 m2 hy hz HF
  generalize U (unsh 31 x) = p1 at *
  generalize U (unsh 27 y) = p2 at *
  generalize U (unsh 30 z) = p3 at *
  generalize U x = ux at *
  generalize U y = uy at *
  generalize U z = uz at *
  go_enter Try.func16, Try.ntmps16
  go_wp2_with fail
  refine (H31.out _).mono ?_
  rintro e w' ⟨rfl, rfl⟩
  go_wp2_with fail
  refine (inv2 _).mono ?_
  rintro e w' ⟨rfl, rfl⟩
  go_wp2_with fail
  refine (H27.out _).mono ?_
  rintro e w' ⟨rfl, rfl⟩
  go_wp2_with fail
  refine (inv1 _).mono ?_
  rintro e w' ⟨rfl, rfl⟩
  go_wp2_with fail
  refine (H30.out _).mono ?_
  rintro e w' ⟨rfl, rfl⟩
  go_wp2_with fail
  go_ret
  exact ⟨rfl, rfl⟩
end Go.Proofs.Yticodfdonpookaa
