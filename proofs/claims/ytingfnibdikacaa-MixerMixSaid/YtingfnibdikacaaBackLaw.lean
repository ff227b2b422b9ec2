/- Step and Back undo each other; Step is linear. No condition. -/
import Derived.Test.YtingfnibdikacaaBack
set_option linter.unusedSimpArgs false
set_option linter.unusedVariables false
namespace Go.Proofs.Ytingfnibdikacaa
theorem bitAt_get (c b : BitVec 64) (k i : Nat) : (bitAt c b k).getLsbD i = (decide (i = 0) && (c.getLsbD k ^^ (decide (17 ≤ k) && b.getLsbD (k - 17)))) := by
  unfold bitAt
  by_cases h : i = 0
  · subst h; split
    · simp_all
    · rename_i h17; simp [h17]
  · split <;> simp_all
theorem unsh_succ (c : BitVec 64) (k j : Nat) : (unsh c (k + 1)).getLsbD j = ((unsh c k).getLsbD j || (decide (j < 64) && !decide (j < k) && (bitAt c (unsh c k) k).getLsbD (j - k))) := by
  simp [unsh, BitVec.getLsbD_shiftLeft]
theorem unsh_get (c : BitVec 64) (k : Nat) (hk : k ≤ 64) : ∀ j, (unsh c k).getLsbD j = (decide (j < k) && (c.getLsbD j ^^ (decide (17 ≤ j) && (unsh c k).getLsbD (j - 17)))) := by
  induction k with
  | zero => intro j; simp [unsh]
  | succ k ih =>
    have ih := ih (by omega)
    have hlow : ∀ j, j < k → (unsh c (k + 1)).getLsbD j = (unsh c k).getLsbD j := by
      intro j hj; rw [unsh_succ]; simp [hj]
    intro j
    rcases Nat.lt_trichotomy j k with h | h | h
    · rw [hlow j h, hlow (j - 17) (by omega), ih j]
      simp [h, show j < k + 1 by omega]
    · subst h
      rw [unsh_succ, ih j, bitAt_get]
      by_cases h17 : 17 ≤ j
      · rw [hlow (j - 17) (by omega)]; simp [h17, show j < 64 by omega]
      · simp [h17, show j < 64 by omega]
    · rw [unsh_succ, ih j, bitAt_get]
      simp [show ¬ j < k by omega, show ¬ j < k + 1 by omega, show ¬ j - k = 0 by omega]
theorem unsh_spec (c : BitVec 64) : unsh c 64 ^^^ unsh c 64 <<< 17 = c := by
  apply BitVec.eq_of_getLsbD_eq
  intro j hj
  have h := unsh_get c 64 (by omega) j
  rw [BitVec.getLsbD_xor, BitVec.getLsbD_shiftLeft]
  rw [h]
  by_cases h17 : 17 ≤ j
  · simp [hj, h17, show ¬ j < 17 by omega]
  · simp [hj, h17, show j < 17 by omega]
theorem xx (x y : BitVec 64) : x ^^^ (x ^^^ y) = y := by rw [← BitVec.xor_assoc, BitVec.xor_self, BitVec.zero_xor]
theorem xlc (x y z : BitVec 64) : x ^^^ (y ^^^ z) = y ^^^ (x ^^^ z) := by rw [← BitVec.xor_assoc, BitVec.xor_comm x y, BitVec.xor_assoc]
theorem shl_fix {z : BitVec 64} (h : z = z <<< 17) : z = 0#64 := by
  have H : ∀ n j, j < n → z.getLsbD j = false := by
    intro n
    induction n with
    | zero => intro j hj; omega
    | succ n ih =>
      intro j hj
      rw [h, BitVec.getLsbD_shiftLeft]
      by_cases h17 : j < 17
      · simp [h17]
      · simp [ih (j - 17) (by omega)]
  apply BitVec.eq_of_getLsbD_eq
  intro j hj
  simp [H (j + 1) j (by omega)]
theorem sh_inj {x y : BitVec 64} (h : x ^^^ x <<< 17 = y ^^^ y <<< 17) : x = y := by
  have e : x ^^^ y = (x ^^^ y) <<< 17 := by
    rw [BitVec.shiftLeft_xor_distrib]
    have h2 := congrArg (fun t => (t ^^^ y) ^^^ x <<< 17) h
    have a1 : x ^^^ x <<< 17 ^^^ y ^^^ x <<< 17 = x ^^^ y := by
      rw [BitVec.xor_assoc x, BitVec.xor_comm (x <<< 17) y, ← BitVec.xor_assoc, BitVec.xor_assoc, BitVec.xor_self, BitVec.xor_zero]
    have a2 : y ^^^ y <<< 17 ^^^ y ^^^ x <<< 17 = x <<< 17 ^^^ y <<< 17 := by
      rw [BitVec.xor_comm y (y <<< 17), BitVec.xor_assoc (y <<< 17) y y, BitVec.xor_self, BitVec.xor_zero, BitVec.xor_comm]
    rw [a1, a2] at h2
    exact h2
  have z := shl_fix e
  have := congrArg (fun t => t ^^^ y) z
  simpa [BitVec.xor_assoc] using this
theorem rot_get (x : BitVec 64) (k j : Nat) (hk : k ≤ 64) (hj : j < 64) : (rot x k).getLsbD j = if j < k then x.getLsbD (j + (64 - k)) else x.getLsbD (j - k) := by
  unfold rot
  rw [BitVec.getLsbD_or, BitVec.getLsbD_shiftLeft, BitVec.getLsbD_ushiftRight]
  split
  · rename_i h; simp [h, hj, Nat.add_comm]
  · rename_i h
    rw [BitVec.getLsbD_of_ge x (64 - k + j) (by omega)]
    simp [h, hj]
theorem rot_rot (x : BitVec 64) (k : Nat) (hk : k ≤ 64) : rot (rot x k) (64 - k) = x := by
  apply BitVec.eq_of_getLsbD_eq
  intro j hj
  rw [rot_get _ _ _ (by omega) hj]
  split
  · rename_i h
    rw [rot_get _ _ _ hk (by omega), if_neg (by omega)]; congr 1; omega
  · rename_i h
    rw [rot_get _ _ _ hk (by omega), if_pos (by omega)]; congr 1; omega
theorem rot_xor (x y : BitVec 64) (k : Nat) (hk : k ≤ 64) : rot (x ^^^ y) k = rot x k ^^^ rot y k := by
  apply BitVec.eq_of_getLsbD_eq
  intro j hj
  rw [BitVec.getLsbD_xor, rot_get _ _ _ hk hj, rot_get _ _ _ hk hj, rot_get _ _ _ hk hj]
  split <;> simp
theorem back_step (s : S) : back (step s) = s := by
  obtain ⟨a, b, c, d⟩ := s
  have hd : rot (rot (d ^^^ b) 45) 19 = d ^^^ b := rot_rot _ 45 (by omega)
  have hu : unsh ((b ^^^ (c ^^^ a)) ^^^ (c ^^^ a ^^^ b <<< 17)) 64 = b := by
    apply sh_inj
    rw [unsh_spec]
    simp only [BitVec.xor_assoc, BitVec.xor_comm, xlc, xx, BitVec.xor_self, BitVec.xor_zero]
  simp only [back, step, hd, hu, S.mk.injEq]
  refine ⟨?_, trivial, ?_, ?_⟩
  all_goals
    simp only [BitVec.xor_assoc]
    simp [xx, xlc, BitVec.xor_comm]
theorem step_back (s : S) : step (back s) = s := by
  obtain ⟨a, b, c, d⟩ := s
  have hd : rot (rot d 19) 45 = d := rot_rot _ 19 (by omega)
  have hs := unsh_spec (b ^^^ c)
  have hb : b = unsh (b ^^^ c) 64 ^^^ unsh (b ^^^ c) 64 <<< 17 ^^^ c := by rw [hs, BitVec.xor_assoc, BitVec.xor_self, BitVec.xor_zero]
  simp only [back, step, S.mk.injEq]
  generalize unsh (b ^^^ c) 64 = u at *
  refine ⟨?_, ?_, ?_, ?_⟩
  · simp [BitVec.xor_assoc, xx, xlc, BitVec.xor_comm]
  · rw [hb]; simp [BitVec.xor_assoc, xx, xlc, BitVec.xor_comm]
  · simp [BitVec.xor_assoc, xx, xlc, BitVec.xor_comm]
  · rw [show rot d 19 ^^^ u ^^^ u = rot d 19 by simp [BitVec.xor_assoc], hd]
theorem step_inj {s t : S} (h : step s = step t) : s = t := by rw [← back_step s, h, back_step]
theorem step_zero : step ⟨0, 0, 0, 0⟩ = ⟨0, 0, 0, 0⟩ := by kernel_rfl
def S.mix (s t : S) : S := ⟨s.a ^^^ t.a, s.b ^^^ t.b, s.c ^^^ t.c, s.d ^^^ t.d⟩
theorem step_mix (s t : S) : step (s.mix t) = (step s).mix (step t) := by
  simp only [step, S.mix, S.mk.injEq]
  refine ⟨?_, ?_, ?_, ?_⟩
  · simp [BitVec.xor_assoc, xlc, BitVec.xor_comm]
  · simp [BitVec.xor_assoc, xlc, BitVec.xor_comm]
  · rw [BitVec.shiftLeft_xor_distrib]; simp [BitVec.xor_assoc, xlc, BitVec.xor_comm]
  · rw [← rot_xor _ _ _ (by omega)]; congr 1; simp [BitVec.xor_assoc, xlc, BitVec.xor_comm]
end Go.Proofs.Ytingfnibdikacaa
