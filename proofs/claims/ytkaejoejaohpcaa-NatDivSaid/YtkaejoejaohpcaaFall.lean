/- nat.Of, nat.Falling: what they answer. Condition: at most 60 factors. -/
import Derived.Test.YtkaejoejaohpcaaMul
set_option linter.unusedSimpArgs false
set_option linter.unusedVariables false
namespace Go.Proofs.Ytkaejoejaohpcaa
open Go.RowKit
def ofL (x : Nat) : List Nat := trimL [x]
theorem ofL_val (x : Nat) : val (ofL x) = x := by unfold ofL; rw [val_trimL]; simp [val]
theorem ofL_canon {x : Nat} (h : x < 18446744073709551616) : Canon (ofL x) := trimL_canon fun y hy => by simp at hy; omega
set_option maxHeartbeats 800000 in
theorem of_any (x : Nat) (w : World) : Calls Try.prog 12 #[.int .u64 x] w fun e w' => Below w.heap.size w w' ∧ ∃ a k, e = .returned (.slice a k k) ∧ (ofL x).length = k ∧ Rd w' (.slice a k k) (castN (ofL x)) := by
  have HT : Hid (Calls Try.prog 19 #[.slice (some ⟨w.heap.size, 0, none⟩) 1 1] (w.alloc (.cells #[.int .u64 x] 28)) fun e w' => ∃ k, e = .returned (.slice (some ⟨w.heap.size, 0, none⟩) k k) ∧ (ofL x).length = k ∧ Rd w' (.slice (some ⟨w.heap.size, 0, none⟩) k k) (castN (ofL x)) ∧ w.alloc (.cells #[.int .u64 x] 28) = w') := by
    refine (trim_any _ 1 1 [x] _ (Rd.built w (castN [x]) #[.int .u64 x] 28 rfl 1 rfl (by decide))).mono ?_
    rintro e w' ⟨rfl, hr, rfl⟩
    exact ⟨_, rfl, rfl, hr, rfl⟩
  go_enter Try.func12, Try.ntmps12
  go_wp2_with fail
  refine HT.out.mono ?_
  rintro e w1 ⟨k, rfl, hk, hr, rfl⟩
  have HK := Lib.hid hk
  have HR := Lib.hid hr
  clear hk hr
  go_wp2_with fail
  go_ret
  exact ⟨(Below.refl _ _).alloc (Nat.le_refl _) _, _, _, rfl, HK.out, HR.out⟩
def fallN (n : Nat) : Nat → Nat
  | 0 => 1
  | k + 1 => fallN n k * (n - k)
theorem fallN_zero (n : Nat) : ∀ k, n < k → fallN n k = 0
  | 0, h => by omega
  | k + 1, h => by
    unfold fallN
    rcases Nat.lt_or_ge n k with h1 | h1
    · rw [fallN_zero n k h1, Nat.zero_mul]
    · rw [show n - k = 0 by omega, Nat.mul_zero]
theorem fallN_bd {n : Nat} (hn : n < 18446744073709551616) : ∀ k, fallN n k ≤ 18446744073709551615 ^ k
  | 0 => by simp [fallN]
  | k + 1 => by
    unfold fallN
    rw [Nat.pow_succ]
    exact Nat.mul_le_mul (fallN_bd hn k) (by omega)
theorem fall_len {n k : Nat} (hn : n < 18446744073709551616) (hk : k ≤ 64) {l : List Nat} (hc : Canon l) (hv : val l = fallN n k) : l.length ≤ 64 := by
  rw [len_iff hc 64, hv]
  have h1 := fallN_bd hn k
  have h2 : 18446744073709551615 ^ k ≤ 18446744073709551615 ^ 64 := Nat.pow_le_pow_right (by decide) hk
  have h3 : 18446744073709551615 ^ 64 < 18446744073709551616 ^ 64 := Nat.pow_lt_pow_left (by decide) (by decide)
  omega
set_option maxHeartbeats 1000000 in
theorem falling_any (n many : Nat) (w : World) (hn : n < 18446744073709551616) (hm : many ≤ 60) : Calls Try.prog 13 #[.int .u64 n, .int .i64 many] w fun e w' => Below w.heap.size w w' ∧ ∃ a k c l, e = .returned (.tuple #[.slice a k c, .int .i64 0]) ∧ Rd w' (.slice a k c) (castN l) ∧ Canon l ∧ val l = fallN n many ∧ l.length = k := by
  have HOF : Hid (∀ X x, Calls Try.prog 12 #[.int .u64 (x : Nat)] X fun e w' => Below X.heap.size X w' ∧ ∃ a k, e = .returned (.slice a k k) ∧ (ofL x).length = k ∧ Rd w' (.slice a k k) (castN (ofL x))) := fun X x => of_any x X
  have HO1 := Lib.hid (HOF.out w 1)
  have HN : Hid (n < 18446744073709551616) := hn
  have hmI : ¬ (300 : Int) < (many : Int) := by omega
  have hmw : IntKind.u64.wrap (many : Int) = (many : Int) := by rw [IntKind.wrap_u64]; omega
  go_enter Try.func13, Try.ntmps13
  go_wp2_with fail
  refine HO1.out.mono ?_
  rintro e w1 ⟨hb1, a, k, rfl, hk, hr⟩
  have HB1 := Lib.hid hb1
  have HR1 := Lib.hid hr
  have HK1 := Lib.hid hk
  clear hb1 hr hk HO1
  go_wp2_with fail
  go_loopw [19, 6] (fun iv v wr => ∃ i : Nat, ∃ a k c l, i ≤ many ∧ iv = .int .u64 i ∧ v = .slice a k c ∧ Hid (Below w.heap.size w wr) ∧ Hid (Rd wr (.slice a k c) (castN l)) ∧ Hid (Canon l ∧ val l = fallN n i ∧ l.length = k)) (fun iv _ _ => many - (intOf iv).toNat)
  case atStart => exact ⟨0, a, k, k, ofL 1, Nat.zero_le _, rfl, rfl, HB1.out, HR1.out, ofL_canon (by decide), ofL_val 1, HK1.out⟩
  case round =>
    clear HB1 HR1 HK1
    obtain ⟨i, a, k, c, l, hi, rfl, rfl, HB, HR, HC⟩ := hrel
    by_cases him : i < many
    · have hiI : (i : Int) < (many : Int) := by omega
      by_cases hni : n < i
      · have hniI : (n : Int) < (i : Int) := by omega
        have HZ : Hid (fallN n many = 0) := fallN_zero n many (by omega)
        go_wp2_with fail
        go_ret2
        exact ⟨HB.out, none, 0, 0, [], rfl, Rd.nil _, trivial, by rw [HZ.out]; rfl, rfl⟩
      · have hniI : ¬ (n : Int) < (i : Int) := by omega
        obtain ⟨d, hd⟩ : ∃ d, n - i = d := ⟨_, rfl⟩
        have e1 : IntKind.u64.wrap ((n : Int) - (i : Int)) = (d : Int) := by rw [IntKind.wrap_u64]; omega
        have HD : Hid (d < 18446744073709551616) := by show d < _; omega
        have HF : Hid (fallN n (i + 1) = fallN n i * d) := by show _ = _; rw [← hd]; rfl
        have HOD := Lib.hid (HOF.out wr d)
        clear hd
        go_wp2_with fail
        refine HOD.out.mono ?_
        rintro e w2 ⟨hb2, a', k', rfl, hk', hr'⟩
        have HM : Hid (Calls Try.prog 8 #[.slice a k c, .slice a' k' k'] w2 fun e w' => Below w2.heap.size w2 w' ∧ ∃ a k c l, e = .returned (.tuple #[.slice a k c, .int .i64 0]) ∧ Rd w' (.slice a k c) (castN l) ∧ Canon l ∧ val l = fallN n (i + 1) ∧ l.length = k) := by
          obtain ⟨c1, c2, c3⟩ := HC.out
          have hl1 : l.length ≤ 64 := fall_len HN.out (by omega) c1 c2
          have hl2 : k' ≤ 64 := by rw [← hk']; exact Nat.le_trans (trimL_len _) (by simp)
          refine (mul_run a k c l a' k' k' (ofL d) w2 (HR.out.below hb2 (Nat.le_refl _)) hr' c1 (ofL_canon HD.out) (by omega) hl2).mono ?_
          rintro e w' ⟨g1, L, g2, g3, g4⟩
          rw [c2, ofL_val, ← HF.out] at g3
          have hL := fall_len HN.out (show i + 1 ≤ 64 by omega) g2 g3
          rcases g4 with ⟨-, v, rfl, hrv⟩ | ⟨g5, -⟩
          · obtain ⟨av, cv, rfl, -, -⟩ := hrv.slice
            exact ⟨g1, _, _, _, L, rfl, hrv, g2, g3, rfl⟩
          · omega
        have HB2 := Lib.hid (HB.out.trans (hb2.mono HB.out.size))
        clear hb2 hk' hr'
        go_wp2_with fail
        refine HM.out.mono ?_
        rintro e w3 ⟨hb3, a3, k3, c3, l3, rfl, hr3, q1, q2, q3⟩
        have HB3 := Lib.hid (HB2.out.trans (hb3.mono HB2.out.size))
        have HR3 := Lib.hid hr3
        have HC3 : Hid (Canon l3 ∧ val l3 = fallN n (i + 1) ∧ l3.length = k3) := ⟨q1, q2, q3⟩
        have e2 : IntKind.u64.wrap ((i : Int) + 1) = ((i + 1 : Nat) : Int) := by rw [IntKind.wrap_u64]; omega
        clear hb3 hr3 q1 q2 q3
        go_wp2_with fail
        go_roundw
        case rel => exact ⟨i + 1, a3, k3, c3, l3, by omega, by go_num, rfl, HB3.out, HR3.out, HC3.out⟩
        case measure => simp [intOf]; omega
    · obtain rfl : i = many := by omega
      go_wp2_with fail
      go_ret2
      exact ⟨HB.out, a, k, c, l, rfl, HR.out, HC.out⟩
end Go.Proofs.Ytkaejoejaohpcaa
