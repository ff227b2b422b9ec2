/- The walk of NatDiv. Condition: a row within the reach. -/
import Derived.Test.YtkaejoejaohpcaaAl
import Derived.Test.YtkaejoejaohpcaaErr
import Derived.Test.YtkaejoejaohpcaaDiv
set_option linter.unusedSimpArgs false
set_option linter.unusedVariables false
namespace Go.Proofs.Ytkaejoejaohpcaa.natDiv
open Go.RowKit Go.Proofs.Ytkaejoejaohpcaa
set_option maxHeartbeats 800000 in
theorem div_err (a : Option Addr) (n c : Nat) (la : List Nat) (b : Nat) (w : World) (h : Rd w (.slice a n c) (castN la)) (hb : rightB la = false ∨ b = 0) :
    Calls Try.prog 11 #[.slice a n c, .int .u64 b] w fun e w' => w = w' ∧ ∃ er : Nat, er ≠ 0 ∧ e = .returned (.tuple #[.slice none 0 0, .int .u64 0, .int .i64 er]) := by
  have H1 := Lib.hid (right_any a n c la w h)
  clear h
  cases hx : rightB la with
  | false =>
    rw [hx] at H1
    clear hb hx
    go_enter Try.func11, Try.ntmps11
    go_wp2_with fail
    refine H1.out.mono ?_
    rintro e w1 ⟨rfl, rfl⟩
    go_wp2_with fail
    exact bodyPost_ret (v := .tuple #[.slice none 0 0, .int .u64 0, .int .i64 1]) (by simp [results, Try.results11, go_sem]) rfl ⟨rfl, 1, by decide, rfl⟩
  | true =>
    obtain rfl : b = 0 := by rcases hb with h | h; rw [hx] at h; cases h; exact h
    rw [hx] at H1
    clear hb hx
    go_enter Try.func11, Try.ntmps11
    go_wp2_with fail
    refine H1.out.mono ?_
    rintro e w1 ⟨rfl, rfl⟩
    go_wp2_with fail
    exact bodyPost_ret (v := .tuple #[.slice none 0 0, .int .u64 0, .int .i64 2]) (by simp [results, Try.results11, go_sem]) rfl ⟨rfl, 2, by decide, rfl⟩
theorem ofL_len (x : Nat) : (ofL x).length ≤ 1 := trimL_len [x]
def BIG : Nat := 18446744073709551616 ^ 64
theorem small {e : Ending} {w' : World} {V : Nat} (h : Ans e w' V) (hV : V < BIG) : ∃ b k d l, e = .returned (.tuple #[.slice b k d, .int .i64 0]) ∧ Rd w' (.slice b k d) (castN l) ∧ Canon l ∧ val l = V ∧ k ≤ 64 := by
  obtain ⟨l, h1, h2, ⟨h3, v, rfl, hr⟩ | ⟨h4, -⟩⟩ := h
  · obtain ⟨b, d, rfl, -, -⟩ := hr.slice
    exact ⟨b, _, d, l, rfl, hr, h1, h2, h3⟩
  · have := (len_iff h1 64).2 (by rw [h2]; exact hV)
    omega
theorem val_big {l : List Nat} (h : Canon l) (hl : l.length ≤ 64) : val l < BIG := (len_iff h 64).1 hl
set_option maxHeartbeats 1600000 in
theorem run (a : Option Addr) (n ca : Nat) (la : List Nat) (b : Nat) (w : World) (ha : Rd w (.slice a n ca) (castN la)) (wa : Wd la) (hb : b < 18446744073709551616) :
    Calls Try.prog 4 #[.slice a n ca, .int .u64 b] w fun e w' => e = .returned (.bool true) ∧ Below w.heap.size w w' := by
  have HA := Lib.hid ha
  have HLA : Hid (la.length = n) := ha.lenEq.1
  clear ha
  by_cases hok : rightB la = true ∧ 0 < b
  · obtain ⟨hk1, hk2⟩ := hok
    obtain ⟨hk3, hk4⟩ := (rightB_iff wa).1 hk1
    have H1 : Hid (∀ w1, Below w.heap.size w w1 → Calls Try.prog 11 #[.slice a n ca, .int .u64 b] w1 fun e w' => Below w1.heap.size w1 w' ∧ ∃ a' k l, ∃ r : Nat, e = .returned (.tuple #[.slice a' k k, .int .u64 r, .int .i64 0]) ∧ Rd w' (.slice a' k k) (castN l) ∧ Canon l ∧ val l * b + r = val la ∧ r < b) :=
      fun w1 h1 => div_run a n ca la b w1 (HA.out.below h1 (Nat.le_refl _)) hk4 (by have := HLA.out; omega) hk2 hb
    have HVA : Hid (val la < BIG) := val_big hk4 hk3
    have HCA := Lib.hid hk4
    clear hk1 hk3 hk4
    go_enter Try.func4, Try.ntmps4
    go_wp2_with fail
    refine (alive_any w).mono ?_
    rintro e w1 ⟨rfl, hb1⟩
    have HB1 := Lib.hid hb1
    clear hb1
    go_wp2_with fail
    refine (H1.out w1 HB1.out).mono ?_
    rintro e w2 ⟨hb2, a2, k2, q, r, rfl, hr2, cq, hv2, hrb⟩
    have HB2 := Lib.hid (HB1.out.trans (hb2.mono HB1.out.size))
    have HR2 := Lib.hid hr2
    have HCQ := Lib.hid cq
    have HV2 := Lib.hid hv2
    clear hb2 hr2 cq hv2 H1
    go_wp2_with fail
    refine (of_any b w2).mono ?_
    rintro e w3 ⟨hb3, a3, k3, rfl, hl3, hr3⟩
    have HB3 := Lib.hid (HB2.out.trans (hb3.mono HB2.out.size))
    have HR23 := Lib.hid (HR2.out.below hb3 (Nat.le_refl _))
    have HR3 := Lib.hid hr3
    have HL3 := Lib.hid hl3
    have H3 : Hid (Calls Try.prog 8 #[.slice a2 k2 k2, .slice a3 k3 k3] w3 fun e w' => Below w3.heap.size w3 w' ∧ ∃ b' k d l, e = .returned (.tuple #[.slice b' k d, .int .i64 0]) ∧ Rd w' (.slice b' k d) (castN l) ∧ Canon l ∧ val l = val q * b ∧ k ≤ 64) := by
      have e1 := HR23.out.lenEq.1
      have hql : q.length ≤ 64 := by
        rw [len_iff HCQ.out 64]
        have e2 := HV2.out
        have e3 := HVA.out
        have e4 : val q * 1 ≤ val q * b := Nat.mul_le_mul (Nat.le_refl _) hk2
        rw [Nat.mul_one] at e4
        unfold BIG at e3
        exact Nat.lt_of_le_of_lt (Nat.le_trans e4 (Nat.le_trans (Nat.le_add_right _ _) (Nat.le_of_eq e2))) e3
      refine (mul_run a2 k2 k2 q a3 k3 k3 (ofL b) w3 HR23.out HR3.out HCQ.out (ofL_canon hb) (by omega) (by rw [← HL3.out]; exact Nat.le_trans (ofL_len b) (by decide))).mono ?_
      rintro e w' ⟨h1, h2⟩
      rw [ofL_val] at h2
      refine ⟨h1, small h2 ?_⟩
      exact Nat.lt_of_le_of_lt (Nat.le_trans (Nat.le_add_right _ _) (Nat.le_of_eq HV2.out)) HVA.out
    clear hb3 hr3 hl3 HR2 HR3
    go_wp2_with fail
    refine H3.out.mono ?_
    rintro e w4 ⟨hb4, a4, k4, d4, p, rfl, hr4, cp, hv4, hk4⟩
    have HB4 := Lib.hid (HB3.out.trans (hb4.mono HB3.out.size))
    have HR4 := Lib.hid hr4
    have HCP := Lib.hid cp
    have HV4 := Lib.hid hv4
    clear hb4 hr4 cp hv4 H3 HR23
    go_wp2_with fail
    refine (of_any r w4).mono ?_
    rintro e w5 ⟨hb5, a5, k5, rfl, hl5, hr5⟩
    have HB5 := Lib.hid (HB4.out.trans (hb5.mono HB4.out.size))
    have HR45 := Lib.hid (HR4.out.below hb5 (Nat.le_refl _))
    have HR5 := Lib.hid hr5
    have HL5 := Lib.hid hl5
    have H5 : Hid (Calls Try.prog 9 #[.slice a4 k4 d4, .slice a5 k5 k5] w5 fun e w' => Below w5.heap.size w5 w' ∧ ∃ b' k d l, e = .returned (.tuple #[.slice b' k d, .int .i64 0]) ∧ Rd w' (.slice b' k d) (castN l) ∧ l = la) := by
      refine (add_run a4 k4 d4 p a5 k5 k5 (ofL r) w5 HR45.out HR5.out HCP.out (ofL_canon (Nat.lt_trans hrb hb)) hk4 (by rw [← HL5.out]; exact Nat.le_trans (ofL_len r) (by decide))).mono ?_
      rintro e w' ⟨h1, h2⟩
      rw [ofL_val, HV4.out, HV2.out] at h2
      obtain ⟨b', k, d, l, h3, h4, h5, h6, -⟩ := small h2 HVA.out
      exact ⟨h1, b', k, d, l, h3, h4, val_inj h5 HCA.out h6⟩
    clear hb5 hr5 hl5 HR4 HR5
    go_wp2_with fail
    refine H5.out.mono ?_
    rintro e w6 ⟨hb6, a6, k6, d6, s, rfl, hr6, hsl⟩
    have HB6 := Lib.hid (HB5.out.trans (hb6.mono HB5.out.size))
    have HE1 : Hid (Calls Try.prog 10 #[.slice a6 k6 d6, .slice a n ca] w6 fun e w' => e = .returned (.bool true) ∧ Below w6.heap.size w6 w') := (equal_any _ _ _ _ w6 hr6 (HA.out.below HB6.out (Nat.le_refl _))).mono fun e w' ⟨h1, h2⟩ => ⟨by rw [h1, hsl]; simp, h2⟩
    have hrI : decide ((r : Int) < (b : Int)) = true := decide_eq_true (by omega)
    have hrN : decide (r < b) = true := decide_eq_true hrb
    clear hb6 hr6 hsl H5 HR45 hk4
    go_wp2_with fail
    refine HE1.out.mono ?_
    rintro e w7 ⟨rfl, hb7⟩
    have HB7 := Lib.hid (HB6.out.trans (hb7.mono HB6.out.size))
    clear hb7
    go_wp2_with fail
    go_ret
    exact ⟨rfl, HB7.out⟩
  · have H1 : Hid (∀ w1, Below w.heap.size w w1 → Calls Try.prog 11 #[.slice a n ca, .int .u64 b] w1 fun e w' => w1 = w' ∧ ∃ er : Nat, er ≠ 0 ∧ e = .returned (.tuple #[.slice none 0 0, .int .u64 0, .int .i64 er])) :=
      fun w1 h1 => div_err a n ca la b w1 (HA.out.below h1 (Nat.le_refl _)) (by
        cases h2 : rightB la
        · exact .inl rfl
        · exact .inr (Nat.eq_zero_of_not_pos fun h3 => hok ⟨h2, h3⟩))
    clear hok
    go_enter Try.func4, Try.ntmps4
    go_wp2_with fail
    refine (alive_any w).mono ?_
    rintro e w1 ⟨rfl, hb1⟩
    have HB1 := Lib.hid hb1
    clear hb1
    go_wp2_with fail
    refine (H1.out w1 HB1.out).mono ?_
    rintro e w2 ⟨rfl, er, hne, rfl⟩
    have hn1 : ((er : Int) != 0) = true := by rw [bne_iff_ne]; omega
    clear hne
    go_wp2_with fail
    go_ret
    exact ⟨rfl, HB1.out⟩
theorem walk (a1 : Option Addr) (len1 cap1 : Nat) (z1 : List Int) (b : Int) (w : World)
    (w1 : IsRow .u64 w a1 len1 cap1 z1) (r1 : len1 * 8 ≤ 140737488351232) (w2 : (Lit.int .u64 b).wf = true) :
    Calls Try.prog 4 #[.slice a1 len1 cap1, .int .u64 b] w fun e w' => e = .returned (.bool true) ∧ Below w.heap.size w w' := by
  obtain ⟨h1, g1⟩ := w1.rd
  obtain ⟨la, e1, k1⟩ := nats_of _ g1
  rw [e1] at h1
  have hb := bounds_u64 w2
  obtain ⟨b, rfl⟩ := Int.eq_ofNat_of_zero_le hb.1
  exact run _ _ _ la b w h1 k1 (by omega)
end Go.Proofs.Ytkaejoejaohpcaa.natDiv
