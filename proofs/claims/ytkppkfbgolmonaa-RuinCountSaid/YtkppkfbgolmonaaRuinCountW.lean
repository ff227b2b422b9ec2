/- The walk of RuinCount. No condition. -/
import Derived.Test.YtkppkfbgolmonaaCount
import Derived.Test.YtkppkfbgolmonaaLaws
set_option linter.unusedSimpArgs false
set_option linter.unusedVariables false
namespace Go.Proofs.Ytkppkfbgolmonaa.ruinCount
open Go.RowKit Go.Proofs.Ytkppkfbgolmonaa
theorem won_le (top : Int) (o : Option (Int × Nat)) : won top o ≤ 1 := by
  cases o with
  | none => exact Nat.zero_le _
  | some q => show (if q.1 = top then 1 else 0) ≤ 1; by_cases h : q.1 = top <;> simp [h]
theorem unend_le (o : Option (Int × Nat)) : unend o ≤ 1 := by cases o <;> simp [unend]
set_option maxRecDepth 10000 in
set_option maxHeartbeats 1600000 in
theorem walk_main (t h n : Nat) (h1 : 1 ≤ t) (h2 : t ≤ 8) (h3 : h ≤ t) (h4 : n ≤ 12) (w : World) :
    Calls Try.prog 6 #[.int .i64 t, .int .i64 h, .int .i64 n] w fun e w' => e = .returned (.bool true) ∧ Below w.heap.size w w' := by
  have HL := Lib.hid (count_law t h n h1 h2 h3 h4)
  have HF := Lib.hid (F_tot t n h)
  have hN1 : 2 ^ n ≤ 4096 := Nat.pow_le_pow_right (n := 2) (by decide) h4
  have HBits := Lib.hid (fun x hx w => bits_any x n (by omega) hx w)
  have HPlay := Lib.hid (fun v bs w hr => play_pl t h v bs w hr (show OkP (t : Int) (h : Int) by unfold OkP; omega))
  have HIn := Lib.hid (fun bs q hq => pl_in (top := (t : Int)) (by omega) bs h q hq)
  have HT : Hid (∀ x, tp n x = tabB n (bitf x n)) := fun x => rfl
  have hN : (2 : Int) ^ n = ((2 ^ n : Nat) : Int) := by simp
  have hH : (h : Int) * ((2 ^ n : Nat) : Int) = ((h * 2 ^ n : Nat) : Int) := by simp
  have hG : ((h * (t - h) : Nat) : Int) * ((2 ^ n : Nat) : Int) = ((h * (t - h) * 2 ^ n : Nat) : Int) := by simp
  have hb1 : h * 2 ^ n ≤ 8 * 4096 := Nat.mul_le_mul (by omega) hN1
  have hb2 : h * (t - h) ≤ 8 * 8 := Nat.mul_le_mul (by omega) (by omega)
  have hb3 : h * (t - h) * 2 ^ n ≤ 8 * 8 * 4096 := Nat.mul_le_mul hb2 hN1
  have HFair := Lib.hid (fun w => fair_ok t h h1 (by omega) h3 w)
  generalize h * (t - h) * 2 ^ n = K at *
  generalize h * (t - h) = J at *
  generalize h * 2 ^ n = H at *
  generalize 2 ^ n = N at *
  have HW : Hid (∀ x, tot (fun x => won t (pl t h (tp n x))) (x + 1) = tot (fun x => won t (pl t h (tp n x))) x + won t (pl t h (tp n x))) := fun x => rfl
  have HU : Hid (∀ x, tot (fun x => unend (pl t h (tp n x))) (x + 1) = tot (fun x => unend (pl t h (tp n x))) x + unend (pl t h (tp n x))) := fun x => rfl
  have HP : Hid (∀ x, tot (fun x => played n (pl t h (tp n x))) (x + 1) = tot (fun x => played n (pl t h (tp n x))) x + played n (pl t h (tp n x))) := fun x => rfl
  have HWb : Hid (∀ x, tot (fun x => won t (pl t h (tp n x))) x ≤ x) := fun x => by
    have := tot_le (f := fun x => won t (pl t h (tp n x))) (c := 1) (k := x) (fun i _ => won_le _ _); omega
  have HUb : Hid (∀ x, tot (fun x => unend (pl t h (tp n x))) x ≤ x) := fun x => by
    have := tot_le (f := fun x => unend (pl t h (tp n x))) (c := 1) (k := x) (fun i _ => unend_le _); omega
  have HPb : Hid (∀ x, tot (fun x => played n (pl t h (tp n x))) x ≤ x * n) := fun x => tot_le fun i _ => by
    show played n (pl t h (tp n i)) ≤ n
    cases hp : pl t h (tp n i) with
    | none => exact Nat.le_refl _
    | some q => have := (pl_in (top := (t : Int)) (by omega) _ _ _ hp).2; rw [tp_len] at this; exact this
  obtain ⟨fW, hfW⟩ : ∃ f, f = tot (fun x => won t (pl t h (tp n x))) := ⟨_, rfl⟩
  obtain ⟨fU, hfU⟩ : ∃ f, f = tot (fun x => unend (pl t h (tp n x))) := ⟨_, rfl⟩
  obtain ⟨fP, hfP⟩ : ∃ f, f = tot (fun x => played n (pl t h (tp n x))) := ⟨_, rfl⟩
  have Z1 : Hid (fW 0 = 0) := by show _ = _; rw [hfW]; rfl
  have Z2 : Hid (fU 0 = 0) := by show _ = _; rw [hfU]; rfl
  have Z3 : Hid (fP 0 = 0) := by show _ = _; rw [hfP]; rfl
  rw [← hfW] at HW HWb HF
  rw [← hfU] at HU HUb HF
  rw [← hfP] at HP HPb HF
  clear hfW hfU hfP
  have c1 : decide ((t : Int) < 1) = false := by simp; omega
  have c2 : decide (8 < (t : Int)) = false := by simp; omega
  have c3 : decide ((h : Int) < 0) = false := by simp
  have c4 : decide (t < h) = false := by simp; omega
  have c4' : decide ((t : Int) < (h : Int)) = false := by simp; omega
  have c5 : decide ((n : Int) < 0) = false := by simp
  have c6 : decide (12 < (n : Int)) = false := by simp; omega
  go_enter Try.func6, Try.ntmps6
  go_wp2_with fail
  refine (alive_any _).mono ?_
  rintro e w1 ⟨rfl, hb1⟩
  have HB := Lib.hid hb1
  clear hb1
  go_wp2_with fail
  go_loopw [7, 8, 9, 43] (fun a b c iv wr => ∃ x : Nat, x ≤ N ∧ iv = .int .i64 x ∧ a = .int .i64 (fW x : Nat) ∧ b = .int .i64 (fU x : Nat) ∧ c = .int .i64 (fP x : Nat) ∧ Below w.heap.size w wr) (fun _ _ _ iv _ => N - (intOf iv).toNat)
  case atStart => exact ⟨0, Nat.zero_le _, rfl, by rw [Z1.out]; rfl, by rw [Z2.out]; rfl, by rw [Z3.out]; rfl, HB.out⟩
  case round =>
    clear HB
    obtain ⟨x, hx, rfl, rfl, rfl, rfl, hbel⟩ := hrel
    have wb := HWb.out x
    have ub := HUb.out x
    have pb := HPb.out x
    have pb2 : x * n ≤ 4096 * 12 := Nat.mul_le_mul (by omega) h4
    by_cases hlt : x < N
    · have W1 := Lib.hid (HW.out x)
      have U1 := Lib.hid (HU.out x)
      have P1 := Lib.hid (HP.out x)
      generalize fW x = a at *
      generalize fU x = b at *
      generalize fP x = c at *
      have BT := Lib.hid (HBits.out x (by omega))
      clear Z1 Z2 Z3 HL HF
      go_wp2_with fail
      refine (BT.out _).mono ?_
      rintro e w2 ⟨hb2, v, rfl, hr⟩
      have PL := Lib.hid (HPlay.out v _ w2 hr)
      rw [← HT.out] at PL
      have HQ := Lib.hid (HIn.out (tp n x))
      have hbel := hbel.trans (hb2.mono hbel.size)
      clear hb2 hr BT
      generalize pl t h (tp n x) = o at *
      cases o with
      | none =>
        simp only [won, unend, played] at W1 U1 P1
        simp only [plv] at PL
        go_wp2_with fail
        refine (PL.out).mono ?_
        rintro e w3 ⟨rfl, rfl⟩
        go_wp2_with fail
        go_roundw
        case rel => exact ⟨x + 1, by omega, by go_num, by rw [W1.out]; rfl, by rw [U1.out]; go_num, by rw [P1.out]; go_num, hbel⟩
        case measure => simp [intOf]; omega
      | some q =>
        obtain ⟨hq1, hq2⟩ := HQ.out q rfl
        rw [tp_len] at hq2
        obtain ⟨q1, q2⟩ := q
        simp only [won, unend, played] at W1 U1 P1 hq1 hq2
        simp only [plv] at PL
        rcases hq1 with rfl | rfl
        · rw [if_neg (by omega)] at W1
          have ht0 : ((0 : Int) == (t : Int)) = false := by rw [beq_eq_false_iff_ne]; omega
          go_wp2_with fail
          refine (PL.out).mono ?_
          rintro e w3 ⟨rfl, rfl⟩
          go_wp2_with fail
          go_roundw
          case rel => exact ⟨x + 1, by omega, by go_num, by rw [W1.out]; rfl, by rw [U1.out]; rfl, by rw [P1.out]; go_num, hbel⟩
          case measure => simp [intOf]; omega
        · rw [if_pos rfl] at W1
          have ht0 : ((t : Int) != 0) = true := by rw [bne_iff_ne]; omega
          have ht1 : ((t : Int) == (t : Int)) = true := by simp
          have ht2 : ((t : Int) != (t : Int)) = false := by simp
          go_wp2_with fail
          refine (PL.out).mono ?_
          rintro e w3 ⟨rfl, rfl⟩
          go_wp2_with fail
          go_roundw
          case rel => exact ⟨x + 1, by omega, by go_num, by rw [W1.out]; go_num, by rw [U1.out]; rfl, by rw [P1.out]; go_num, hbel⟩
          case measure => simp [intOf]; omega
    · obtain rfl : x = N := by omega
      obtain ⟨f1, f2, f3⟩ := HF.out
      obtain ⟨l1, l2, l3⟩ := HL.out
      rw [← f1] at l1
      rw [← f1, ← f2] at l2
      rw [← f3] at l3
      clear f1 f2 f3 HF HL HW HU HP Z1 Z2 Z3 HWb HUb HPb
      generalize fW x = a at *
      generalize fU x = b at *
      generalize fP x = c at *
      have m1 : (a : Int) * (t : Int) = ((a * t : Nat) : Int) := by simp
      have m2 : ((a : Int) + (b : Int)) * (t : Int) = (((a + b) * t : Nat) : Int) := by simp
      have mb1 : a * t ≤ 4096 * 8 := Nat.mul_le_mul (by omega) h2
      have mb2 : (a + b) * t ≤ 8192 * 8 := Nat.mul_le_mul (by omega) h2
      generalize a * t = A at *
      generalize (a + b) * t = B at *
      go_wp2_with fail
      refine (HFair.out _).mono ?_
      rintro e w3 ⟨rfl, rfl⟩
      go_wp2_with fail
      go_ret
      exact ⟨by simp, hbel⟩
set_option maxHeartbeats 800000 in
theorem walk_skip (t h n : Int) (hn : ¬ (1 ≤ t ∧ t ≤ 8 ∧ 0 ≤ h ∧ h ≤ t ∧ 0 ≤ n ∧ n ≤ 12)) (w : World) :
    Calls Try.prog 6 #[.int .i64 t, .int .i64 h, .int .i64 n] w fun e w' => e = .returned (.bool true) ∧ Below w.heap.size w w' := by
  have HN := Lib.hid hn
  clear hn
  go_enter Try.func6, Try.ntmps6
  go_wp2_with fail
  refine (alive_any _).mono ?_
  rintro e w1 ⟨rfl, hb1⟩
  go_wp2_with fail
  all_goals first
    | (go_ret; exact ⟨by simp, hb1⟩)
    | exact absurd (by omega) HN.out
theorem walk (t h n : Int) (w : World) (w0 : (Lit.int .i64 t).wf = true) (w1 : (Lit.int .i64 h).wf = true) (w2 : (Lit.int .i64 n).wf = true) :
    Calls Try.prog 6 #[.int .i64 t, .int .i64 h, .int .i64 n] w fun e w' => e = .returned (.bool true) ∧ Below w.heap.size w w' := by
  by_cases hn : 1 ≤ t ∧ t ≤ 8 ∧ 0 ≤ h ∧ h ≤ t ∧ 0 ≤ n ∧ n ≤ 12
  · obtain ⟨t, rfl⟩ : ∃ k : Nat, t = k := ⟨t.toNat, by omega⟩
    obtain ⟨h, rfl⟩ : ∃ k : Nat, h = k := ⟨h.toNat, by omega⟩
    obtain ⟨n, rfl⟩ : ∃ k : Nat, n = k := ⟨n.toNat, by omega⟩
    exact walk_main t h n (by omega) (by omega) (by omega) (by omega) w
  · exact walk_skip t h n hn w
end Go.Proofs.Ytkppkfbgolmonaa.ruinCount
