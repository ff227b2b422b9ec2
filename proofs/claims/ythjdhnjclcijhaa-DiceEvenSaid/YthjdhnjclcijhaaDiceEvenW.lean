/- The walk of DiceEven. No condition. -/
import Derived.Test.YthjdhnjclcijhaaAl
set_option linter.unusedSimpArgs false
set_option linter.unusedVariables false
namespace Go.Proofs.Ythjdhnjclcijhaa.diceEven
open Go.RowKit Go.Proofs.Ythjdhnjclcijhaa
theorem right_all : ((List.range 9).all fun m => (List.range 9).all fun n => decide (RightL (dieL (m + 1))) && decide (RightL (stepL (m + 1) (n + 1))) && decide (RightL (dieL ((m + 1) * (n + 1))))) = true := by decide +kernel
theorem facts (m n : Nat) (h1 : 1 ≤ m) (h2 : m ≤ 9) (h3 : 1 ≤ n) (h4 : n ≤ 9) : sumL (dieL m) (stepL m n) = dieL (m * n) ∧ RightL (dieL m) ∧ RightL (stepL m n) ∧ RightL (dieL (m * n)) := by
  have a := List.all_eq_true.1 (List.all_eq_true.1 even_all (m - 1) (List.mem_range.2 (by omega))) (n - 1) (List.mem_range.2 (by omega))
  have b := List.all_eq_true.1 (List.all_eq_true.1 right_all (m - 1) (List.mem_range.2 (by omega))) (n - 1) (List.mem_range.2 (by omega))
  simp only [show m - 1 + 1 = m by omega, show n - 1 + 1 = n by omega, Bool.and_eq_true, decide_eq_true_eq] at a b
  exact ⟨a, b.1.1, b.1.2, b.2⟩
set_option maxHeartbeats 1600000 in
theorem walk_main (m n : Nat) (h1 : 1 ≤ m) (h2 : m ≤ 9) (h3 : 1 ≤ n) (h4 : n ≤ 9) (w : World) :
    Calls Try.prog 4 #[.int .i64 m, .int .i64 n] w fun e w' => e = .returned (.bool true) ∧ Below w.heap.size w w' := by
  obtain ⟨i0, hinfo, hz0, hz1, hz2⟩ := info_parts Try.info3t
  have HF := Lib.hid (facts m n h1 h2 h3 h4)
  have HD1 := Lib.hid (fun w => die_ok m h1 (by omega) w)
  have hmn : m * n ≤ 81 := Nat.mul_le_mul h2 h4
  have hmn1 : 1 ≤ m * n := Nat.mul_pos h1 h3
  have HD2 := Lib.hid (fun w => die_ok (m * n) hmn1 (by omega) w)
  have c1 : decide ((m : Int) < 1) = false := decide_eq_false (by omega)
  have c2 : decide ((n : Int) < 1) = false := decide_eq_false (by omega)
  have c3 : decide (9 < (m : Int)) = false := decide_eq_false (by omega)
  have c4 : decide (9 < (n : Int)) = false := decide_eq_false (by omega)
  have e1 : (n : Int) - 1 = ((n - 1 : Nat) : Int) := by omega
  have e2 : (m : Int) * ((n - 1 : Nat) : Int) = ((m * (n - 1) : Nat) : Int) := by simp
  have e3 : (m : Int) * (n : Int) = ((m * n : Nat) : Int) := by simp
  have hb : m * (n - 1) ≤ 9 * 8 := Nat.mul_le_mul h2 (by omega)
  have HS : Hid (stepL m n = tabI (m * (n - 1) + 1) (fun k => if k % m = 0 then 1 else 0)) := rfl
  have HE : Hid (∀ k, k < n → k * m < m * (n - 1) + 1) := fun k hk => by
    have : k * m ≤ (n - 1) * m := Nat.mul_le_mul_right _ (by omega)
    rw [Nat.mul_comm m]; omega
  have HL : Hid (m * (n - 1) + 1 ≤ n * m) := by
    show _ ≤ _
    obtain ⟨q, rfl⟩ : ∃ q, n = q + 1 := ⟨n - 1, by omega⟩
    rw [show q + 1 - 1 = q by omega, Nat.mul_comm m, Nat.add_mul, Nat.one_mul]; omega
  generalize hL : m * (n - 1) = L at *
  clear hL
  generalize hMN : m * n = MN at *
  clear hMN
  have b2 : i0.bytes * (L + 1) ≤ 281474976710656 := by rw [hz2]; omega
  have b3 : L + 1 ≤ maxLen := by unfold maxLen; omega
  go_enter Try.func4, Try.ntmps4
  go_wp2_with fail
  refine (alive_any _).mono ?_
  rintro e w1 ⟨rfl, hb1⟩
  have HB1 := Lib.hid hb1
  clear hb1
  go_wp2_with fail
  refine (HD1.out _).mono ?_
  rintro e w2 ⟨hb2, v, rfl, hv⟩
  have HB2 := Lib.hid (HB1.out.trans (hb2.mono HB1.out.size))
  have HV := Lib.hid hv
  have hws := HB2.out.size
  clear hb2 hv HB1
  go_wp2_with (refine wpList_make_full _ rfl _ _ 22 rfl w2.heap.size 3 i0 (.int .i64 0) 1 Try.underlying22 hinfo hz0 hz1 .i64 .i64 _ _ (L + 1) rfl rfl ?hL ?hC b2 b3 (Nat.le_refl _) ?_)
  case hL => simp
  case hC => simp
  intro w3 hown hgr
  have hb23 := ((Below.refl w2.heap.size w2).grown hgr (Nat.le_refl _) (fun k hk => by cases hk))
  have HB3 := Lib.hid hb23
  have HO := Lib.hid (OI.made hown)
  clear hown hgr b2 b3 hb23
  go_wp2_with fail
  go_loopw [41] (fun kv wr => ∃ k : Nat, k ≤ n ∧ kv = .int .i64 k ∧ Below w2.heap.size w2 wr ∧ OI wr w2.heap.size w2.heap.size (L + 1) (fun j => if j % m = 0 ∧ j < k * m then 1 else 0)) (fun kv _ => n - (intOf kv).toNat)
  case atStart => exact ⟨0, Nat.zero_le _, rfl, HB3.out, HO.out.congr (fun j _ => by rw [if_neg (by omega)])⟩
  case round =>
    obtain ⟨k, hk, rfl, hbel, ho⟩ := hrel
    by_cases hlt : k < n
    · have hkl := HE.out k hlt
      have fr := ho.frozen (k * m)
      have c0 := ho.get (k * m) hkl
      have hkm : (k : Int) * (m : Int) = ((k * m : Nat) : Int) := by simp
      have HSS := Lib.hid (OI.congr (ho.set (k * m) 1) (f' := fun j => if j % m = 0 ∧ j < (k + 1) * m then 1 else 0) (fun j _ => by
        by_cases e : j = k * m
        · subst e; rw [if_pos rfl, if_pos ⟨Nat.mul_mod_left _ _, Nat.mul_lt_mul_of_pos_right (Nat.lt_succ_self _) h1⟩]
        · rw [if_neg e]
          by_cases e2 : j % m = 0 ∧ j < k * m
          · rw [if_pos e2, if_pos ⟨e2.1, by rw [Nat.add_mul]; omega⟩]
          · rw [if_neg e2, if_neg (fun h => e2 ⟨h.1, by
              have h2 := h.2
              have hq : m * (j / m) = j := by have := Nat.div_add_mod j m; omega
              have hq2 : j / m < k + 1 := (Nat.div_lt_iff_lt_mul h1).2 h2
              rcases Nat.lt_or_ge (j / m) k with h3 | h3
              · rw [← hq, Nat.mul_comm]; exact Nat.mul_lt_mul_of_pos_right h3 h1
              · exfalso; apply e; rw [← hq, show j / m = k by omega, Nat.mul_comm]⟩)]))
      have HBS := Lib.hid (hbel.setCell (Nat.le_refl _) (p := ⟨w2.heap.size, k * m, none⟩) (.int .i64 ((1 : Nat) : Int)))
      clear ho hbel
      generalize k * m = km at *
      go_wp2_with fail
      go_roundw
      case rel => exact ⟨k + 1, by omega, by go_num, HBS.out, HSS.out⟩
      case measure => simp [intOf]; omega
    · obtain rfl : k = n := by omega
      have ht : tabI (L + 1) (fun j => if j % m = 0 ∧ j < k * m then 1 else 0) = stepL m k := by
        rw [HS.out]
        exact tabI_congr fun j hj => by
          have := HL.out
          by_cases e : j % m = 0
          · rw [if_pos ⟨e, by omega⟩, if_pos e]
          · rw [if_neg (fun h => e h.1), if_neg e]
      have hrd := ho.rd
      rw [ht] at hrd
      have HR := Lib.hid hrd
      have HVr := Lib.hid (HV.out.below hbel (Nat.le_refl _))
      have HBr := Lib.hid (HB2.out.trans (hbel.mono HB2.out.size))
      clear ho hrd ht hbel HE HL HS HB3 HO
      go_wp2_with fail
      refine (sum_any _ _ _ _ _ HVr.out HR.out).mono ?_
      rintro e w4 ⟨hb4, hs⟩
      obtain ⟨f1, f2, f3, f4⟩ := HF.out
      rw [f1] at hs
      have HB4 := Lib.hid (HBr.out.trans (hb4.mono HBr.out.size))
      rcases hs with ⟨_, _, _, v2, hv2, rfl⟩ | ⟨_, _, h, _⟩ | ⟨h, _⟩
      · have HV2 := Lib.hid hv2
        clear hb4 hv2 f1 f2 f3 f4
        go_wp2_with fail
        refine (HD2.out _).mono ?_
        rintro e w5 ⟨hb5, v3, rfl, hv3⟩
        have HB5 := Lib.hid (HB4.out.trans (hb5.mono HB4.out.size))
        have HV25 := Lib.hid (HV2.out.below hb5 (Nat.le_refl _))
        have HV3 := Lib.hid hv3
        clear hb5 hv3
        go_wp2_with fail
        refine (equal_any _ _ _ _ _ HV25.out HV3.out).mono ?_
        rintro e w6 ⟨rfl, hb6⟩
        have HB6 := Lib.hid (HB5.out.trans (hb6.mono HB5.out.size))
        clear hb6
        go_wp2_with fail
        go_ret
        exact ⟨by simp, HB6.out⟩
      · exact absurd f4 h
      · exact absurd ⟨f2, f3⟩ h
set_option maxHeartbeats 800000 in
theorem walk_skip (m n : Int) (hn : ¬ (1 ≤ m ∧ m ≤ 9 ∧ 1 ≤ n ∧ n ≤ 9)) (w : World) :
    Calls Try.prog 4 #[.int .i64 m, .int .i64 n] w fun e w' => e = .returned (.bool true) ∧ Below w.heap.size w w' := by
  have HN := Lib.hid hn
  clear hn
  go_enter Try.func4, Try.ntmps4
  go_wp2_with fail
  refine (alive_any _).mono ?_
  rintro e w1 ⟨rfl, hb1⟩
  go_wp2_with fail
  all_goals first
    | (go_ret; exact ⟨by simp, hb1⟩)
    | exact absurd (by omega) HN.out
theorem walk (m n : Int) (w : World) (_ : (Lit.int .i64 m).wf = true) (_ : (Lit.int .i64 n).wf = true) :
    Calls Try.prog 4 #[.int .i64 m, .int .i64 n] w fun e w' => e = .returned (.bool true) ∧ Below w.heap.size w w' := by
  by_cases hn : 1 ≤ m ∧ m ≤ 9 ∧ 1 ≤ n ∧ n ≤ 9
  · obtain ⟨m, rfl⟩ : ∃ k : Nat, m = k := ⟨m.toNat, by omega⟩
    obtain ⟨n, rfl⟩ : ∃ k : Nat, n = k := ⟨n.toNat, by omega⟩
    exact walk_main m n (by omega) (by omega) (by omega) (by omega) w
  · exact walk_skip m n hn w
end Go.Proofs.Ythjdhnjclcijhaa.diceEven
