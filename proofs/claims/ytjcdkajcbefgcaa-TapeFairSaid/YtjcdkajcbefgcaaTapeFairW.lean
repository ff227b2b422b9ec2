/- The walk of TapeFair. No condition. -/
import Derived.Test.YtjcdkajcbefgcaaAl
import Derived.Test.YtjcdkajcbefgcaaLaws
set_option linter.unusedSimpArgs false
set_option linter.unusedVariables false
namespace Go.Proofs.Ytjcdkajcbefgcaa.tapeFair
open Go.RowKit Go.Proofs.Ytjcdkajcbefgcaa
theorem says_at (c : Bool) {s : Nat} {t : List Bool} (h : pop t = s) : says c (fun k => decide (k = s)) t = if (fairF t).map Prod.fst = some c then 1 else 0 := by
  have : says c (fun k => decide (k = s)) t = if vote t = some c then 1 else 0 := by unfold says; simp [h]
  exact this
set_option maxHeartbeats 800000 in
theorem walk_main (n s : Nat) (h1 : n ≤ 12) (h2 : s ≤ n) (w : World) :
    Calls Try.prog 4 #[.int .i64 n, .int .i64 s] w fun e w' => e = .returned (.bool true) ∧ Below w.heap.size w w' := by
  have hN : (2 : Int) ^ n = ((2 ^ n : Nat) : Int) := by simp
  have hN1 : 2 ^ n ≤ 4096 := Nat.pow_le_pow_right (n := 2) (by decide) h1
  have HLaw := Lib.hid (fair_law n (fun k => decide (k = s)))
  have HBits := Lib.hid (fun x hx w => bits_tp x n (by omega) hx w)
  generalize 2 ^ n = N at *
  obtain ⟨fY, hY⟩ : ∃ f, f = tot (fun x => says true (fun k => decide (k = s)) (tp n x)) := ⟨_, rfl⟩
  obtain ⟨fN, hNo⟩ : ∃ f, f = tot (fun x => says false (fun k => decide (k = s)) (tp n x)) := ⟨_, rfl⟩
  have Y0 : Hid (fY 0 = 0) := by show _ = _; rw [hY]; rfl
  have N0 : Hid (fN 0 = 0) := by show _ = _; rw [hNo]; rfl
  have YS : Hid (∀ x, fY (x + 1) = fY x + says true (fun k => decide (k = s)) (tp n x)) := fun x => by rw [hY]; rfl
  have NS : Hid (∀ x, fN (x + 1) = fN x + says false (fun k => decide (k = s)) (tp n x)) := fun x => by rw [hNo]; rfl
  have YB : Hid (∀ x, fY x ≤ x) := fun x => by rw [hY]; have := tot_le (k := x) (c := 1) (fun i _ => says_le true (fun k => decide (k = s)) (tp n i)); omega
  have NB : Hid (∀ x, fN x ≤ x) := fun x => by rw [hNo]; have := tot_le (k := x) (c := 1) (fun i _ => says_le false (fun k => decide (k = s)) (tp n i)); omega
  rw [← hY, ← hNo] at HLaw
  clear hY hNo
  have c1 : decide ((n : Int) < 0) = false := by simp
  have c2 : decide (12 < (n : Int)) = false := by simp; omega
  have c3 : decide ((s : Int) < 0) = false := by simp
  have c4 : decide (n < s) = false := by simp; omega
  have c5 : decide ((n : Int) < (s : Int)) = false := by simp; omega
  go_enter Try.func4, Try.ntmps4
  go_wp2_with fail
  refine (alive_any _).mono ?_
  rintro e w1 ⟨rfl, hb1⟩
  have HB := Lib.hid hb1
  clear hb1
  go_wp2_with fail
  go_loopw [5, 33] (fun tv iv wr => ∃ x : Nat, x ≤ N ∧ iv = .int .i64 x ∧ tv = .int .i64 ((fY x : Int) - (fN x : Int)) ∧ Below w.heap.size w wr) (fun _ iv _ => N - (intOf iv).toNat)
  case atStart => exact ⟨0, Nat.zero_le _, rfl, by rw [Y0.out, N0.out]; rfl, HB.out⟩
  case round =>
    clear HB
    obtain ⟨x, hx, rfl, rfl, hbel⟩ := hrel
    have yb := YB.out x
    have nb := NB.out x
    by_cases hlt : x < N
    · have YS1 := Lib.hid (YS.out x)
      have NS1 := Lib.hid (NS.out x)
      have BT := Lib.hid (HBits.out x (by omega))
      clear YS NS YB NB HLaw Y0 N0
      have hl := tp_len n x
      generalize tp n x = t at *
      generalize fY x = a at *
      generalize fN x = b at *
      go_wp2_with fail
      refine (BT.out _).mono ?_
      rintro e w2 ⟨hb2, v, rfl, hr⟩
      have HR := Lib.hid hr
      have hbel2 := hbel.trans (hb2.mono hbel.size)
      obtain ⟨ad, cap, rfl, hlc, hcm, hop⟩ := hr.open
      have HO := Lib.hid hop
      rw [hl] at hlc HR
      clear hb2 hr BT hop hbel
      rw [hl]
      go_wp2_with fail
      go_loop [8, 41] (fun mv iv => ∃ i : Nat, i ≤ n ∧ iv = .int .i64 i ∧ mv = .int .i64 (pop (t.take i) : Nat)) (fun _ iv => n - (intOf iv).toNat)
      case atStart => exact ⟨0, Nat.zero_le _, rfl, rfl⟩
      case round =>
        obtain ⟨i, hi, rfl, rfl⟩ := hrel
        by_cases hin : i < n
        · obtain ⟨bb, off, rfl, hlt2, hc⟩ := HO.out i (by omega)
          have cc := hc i (by omega)
          clear hc
          have hp : Hid (pop (t.take (i + 1)) = pop (t.take i) + if t.getD i false then 1 else 0) := by
            show _ = _
            rw [List.take_add_one, List.getElem?_eq_getElem (by omega), Option.toList_some, pop_snoc, List.getD_eq_getElem?_getD, List.getElem?_eq_getElem (by omega)]; rfl
          have hpb : pop (t.take i) ≤ i := by have := pop_le (t.take i); rw [List.length_take] at this; omega
          generalize pop (t.take i) = y at *
          cases hv : t.getD i false
          · rw [hv] at cc hp
            go_wp2_with fail
            go_round
            case rel => exact ⟨i + 1, by omega, by go_num, by rw [hp.out]; rfl⟩
            case measure => simp [intOf]; omega
          · rw [hv] at cc hp
            go_wp2_with fail
            go_round
            case rel => exact ⟨i + 1, by omega, by go_num, by rw [hp.out]; go_num⟩
            case measure => simp [intOf]; omega
        · obtain rfl : i = n := by omega
          have ht : t.take i = t := List.take_of_length_le (by omega)
          rw [ht]
          have hpb : pop t ≤ t.length := pop_le t
          by_cases hps : pop t = s
          · have Y1 := YS1.out
            have N1 := NS1.out
            rw [says_at true hps] at Y1
            rw [says_at false hps] at N1
            have Y1 := Lib.hid Y1
            have N1 := Lib.hid N1
            have FA := Lib.hid (fair_any _ t _ HR.out)
            clear YS1 NS1 HO HR
            rw [hps]
            have e1 : ((s : Int) != (s : Int)) = false := by simp
            generalize fairF t = o at *
            cases o with
            | none =>
              go_wp2_with fail
              refine FA.out.mono ?_
              rintro e w3 ⟨rfl, hb3⟩
              have hbel3 := hbel2.trans (hb3.mono hbel2.size)
              simp only [fz]
              go_wp2_with fail
              go_roundw
              case rel => exact ⟨x + 1, by omega, by go_num, by rw [Y1.out, N1.out]; rfl, hbel3⟩
              case measure => simp [intOf]; omega
            | some q =>
              obtain ⟨q1, q2⟩ := q
              simp only [fz] at FA
              cases q1
              · go_wp2_with fail
                refine FA.out.mono ?_
                rintro e w3 ⟨rfl, hb3⟩
                have hbel3 := hbel2.trans (hb3.mono hbel2.size)
                go_wp2_with fail
                go_roundw
                case rel => exact ⟨x + 1, by omega, by go_num, by rw [Y1.out, N1.out]; simp; omega, hbel3⟩
                case measure => simp [intOf]; omega
              · go_wp2_with fail
                refine FA.out.mono ?_
                rintro e w3 ⟨rfl, hb3⟩
                have hbel3 := hbel2.trans (hb3.mono hbel2.size)
                go_wp2_with fail
                go_roundw
                case rel => exact ⟨x + 1, by omega, by go_num, by rw [Y1.out, N1.out]; simp; omega, hbel3⟩
                case measure => simp [intOf]; omega
          · have Y1 : Hid (fY (x + 1) = a) := by show _ = _; rw [YS1.out]; unfold says; simp [hps]
            have N1 : Hid (fN (x + 1) = b) := by show _ = _; rw [NS1.out]; unfold says; simp [hps]
            clear YS1 NS1 HO HR
            have e1 : (((pop t : Nat) : Int) != (s : Int)) = true := by rw [bne_iff_ne]; omega
            generalize pop t = y at *
            go_wp2_with fail
            go_roundw
            case rel => exact ⟨x + 1, by omega, by go_num, by rw [Y1.out, N1.out], hbel2⟩
            case measure => simp [intOf]; omega
    · obtain rfl : x = N := by omega
      have hl := HLaw.out
      rw [hl]
      generalize fN x = a at *
      have e1 : (a : Int) - (a : Int) = 0 := by omega
      rw [e1]
      go_wp2_with fail
      go_ret
      exact ⟨rfl, hbel⟩
set_option maxHeartbeats 800000 in
theorem walk_skip (n s : Int) (hn : ¬ (0 ≤ n ∧ n ≤ 12 ∧ 0 ≤ s ∧ s ≤ n)) (w : World) :
    Calls Try.prog 4 #[.int .i64 n, .int .i64 s] w fun e w' => e = .returned (.bool true) ∧ Below w.heap.size w w' := by
  have HN := Lib.hid hn
  clear hn
  go_enter Try.func4, Try.ntmps4
  go_wp2_with fail
  refine (alive_any _).mono ?_
  rintro e w1 ⟨rfl, hb1⟩
  go_wp2_with fail
  all_goals first
    | (go_ret; exact ⟨by simp, hb1⟩)
    | exact absurd (by omega) HN.out
theorem walk (n s : Int) (w : World) (w0 : (Lit.int .i64 n).wf = true) (w1 : (Lit.int .i64 s).wf = true) :
    Calls Try.prog 4 #[.int .i64 n, .int .i64 s] w fun e w' => e = .returned (.bool true) ∧ Below w.heap.size w w' := by
  by_cases hn : 0 ≤ n ∧ n ≤ 12 ∧ 0 ≤ s ∧ s ≤ n
  · obtain ⟨n, rfl⟩ : ∃ k : Nat, n = k := ⟨n.toNat, by omega⟩
    obtain ⟨s, rfl⟩ : ∃ k : Nat, s = k := ⟨s.toNat, by omega⟩
    exact walk_main n s (by omega) (by omega) w
  · exact walk_skip n s hn w
end Go.Proofs.Ytjcdkajcbefgcaa.tapeFair
