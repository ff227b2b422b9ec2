/- lfsr.Row: what it answers. No condition. -/
import Derived.Test.YtfjeabfjghabhaaJump
import Derived.Test.YtfjeabfjghabhaaBl
set_option linter.unusedSimpArgs false
set_option linter.unusedVariables false
namespace Go.Proofs.Ytfjeabfjghabhaa
open Go.RowKit
theorem tabB_succ (n : Nat) (f : Nat → Bool) : tabB n f ++ [f n] = tabB (n + 1) f := by
  unfold tabB; rw [List.range_succ, List.map_append]; rfl
/-- The uppermost bit behind so many steps. -/
def topb (n t s i : Nat) : Bool := decide (it n t i s / 2 ^ (n - 1) % 2 = 1)
set_option maxHeartbeats 800000 in
set_option maxRecDepth 20000 in
theorem row_ok (n t s m : Nat) (hk : OkT n t) (hs : s < 2 ^ n) (hm : m ≤ 400) (w : World) : Calls Try.prog 10 #[.int .i64 n, .int .u32 t, .int .u32 s, .int .i64 m] w fun e w' => Below w.heap.size w w' ∧ ∃ v, e = .returned (.tuple #[v, .int .i64 0]) ∧ RdB w' v (tabB m (topb n t s)) := by
  obtain ⟨i4, hi4, hz0, hz1, hz2⟩ := info_parts Try.info4t
  obtain ⟨hn1, hn2, -, hP, -, -⟩ := hk.two
  have HR := Lib.hid (right_any n t)
  rw [decide_eq_true hk] at HR
  have d1 : (s : Int) / 2 ^ n = 0 := by rw [div_int, Nat.div_eq_of_lt hs]; rfl
  have HS := Lib.hid (fun k w => step_ok n t (it n t k s) hk (it_lt hs k) w)
  have HST : Hid (∀ k, stp n t (it n t k s) = it n t (k + 1) s) := fun k => rfl
  have HL := Lib.hid (fun k => it_lt (t := t) hs k)
  have HP2 := Lib.hid hP
  have f1 : decide ((m : Int) < 0) = false := decide_eq_false (by omega)
  have f2 : decide ((400 : Int) < (m : Int)) = false := decide_eq_false (by omega)
  clear hP hs hk
  go_enter Try.func10, Try.ntmps10
  go_wp2_with fail
  refine (HR.out _).mono ?_
  rintro e w1 ⟨rfl, rfl⟩
  go_wp2_with fail
  clear d1 f1 f2
  go_loopw [30, 10, 2, 32] (fun iv ov sv _ wr => ∃ i : Nat, i ≤ m ∧ iv = .int .i64 i ∧ sv = .int .u32 (it n t i s : Nat) ∧ Below w1.heap.size w1 wr ∧ wr.ownsRow w1.heap.size 4 1 ov i ((tabB i (topb n t s)).map Value.bool)) (fun iv _ _ _ _ => m - (intOf iv).toNat)
  case atStart => exact ⟨0, Nat.zero_le _, rfl, rfl, Below.refl _ _, World.ownsRow_nil _ _ _ _⟩
  case round =>
    obtain ⟨i, hi, rfl, rfl, hbel, hown⟩ := hrel
    have HOWN := Lib.hid hown
    by_cases hlt : i < m
    · have HSI := Lib.hid (HS.out i)
      rw [HST.out i] at HSI
      have hx : it n t i s < 1048576 := by have := HL.out i; have := HP2.out; omega
      have HB : Hid (topb n t s i = decide (it n t i s / 2 ^ (n - 1) % 2 = 1)) := rfl
      have hv := div_int (it n t i s) (n - 1)
      have hq : it n t i s / 2 ^ (n - 1) ≤ it n t i s := Nat.div_le_self _ _
      have a1 : bits .and .u32 ((it n t i s / 2 ^ (n - 1) : Nat) : Int) 1 = ((it n t i s / 2 ^ (n - 1) % 2 : Nat) : Int) := by
        have := and32 (it n t i s / 2 ^ (n - 1)) 1 (by omega) (by omega)
        rwa [Nat.and_one_is_mod] at this
      have hbb : ((((it n t i s / 2 ^ (n - 1) % 2 : Nat) : Int)) == 1) = topb n t s i := by
        rw [HB.out]
        by_cases e : it n t i s / 2 ^ (n - 1) % 2 = 1
        · rw [e]; rfl
        · rw [decide_eq_false e, beq_eq_false_iff_ne]; omega
      have HSU := Lib.hid (tabB_succ i (topb n t s))
      obtain ⟨y, hy⟩ : ∃ y, it n t (i + 1) s = y := ⟨_, rfl⟩
      rw [hy] at HSI
      have HY := Lib.hid hy
      clear hy HB
      generalize it n t i s / 2 ^ (n - 1) = q at *
      generalize q % 2 = k at *
      generalize topb n t s i = bt at *
      generalize it n t i s = x at *
      have hbs := hbel.size
      have HK : Hid (i + 1 ≤ 17592186044416) := by show _ ≤ _; omega
      clear hown
      go_wp2_with (at_builtin; go_must (refine push rfl _ _ 32 rfl w1.heap.size 4 i4 (.bool false) 1 Try.underlying32 hi4 hz0 hz1 hz2 rfl _ i ((tabB i (topb n t s)).map Value.bool) rfl HOWN.out (.bool bt) _ rfl rfl rfl (by decide) HK.out hbs ?_))
      intro v' w' hown hgr
      have hb2 := grown_below hgr HOWN.out hbel (Nat.le_refl _) hbs
      rw [show (tabB i (topb n t s)).map Value.bool ++ [Value.bool bt] = ((tabB i (topb n t s)) ++ [bt]).map Value.bool by rw [List.map_append]; rfl, HSU.out] at hown
      go_wp2_with fail
      refine (HSI.out _).mono ?_
      rintro e w2 ⟨rfl, q2, rfl⟩
      go_wp2_with fail
      exact ⟨⟨i + 1, by omega, by go_num, by rw [HY.out], hb2.drewN q2, hown⟩, by simp [intOf]; omega⟩
    · obtain rfl : i = m := by omega
      have HRD := Lib.hid (RdB.own hown)
      clear hown
      go_wp2_with fail
      go_ret2
      exact ⟨hbel, _, rfl, HRD.out⟩
end Go.Proofs.Ytfjeabfjghabhaa
