/- nat.trim, word, Right, fits: what they answer. No condition. -/
import Derived.Test.YtkaejoejaohpcaaNums
set_option linter.unusedSimpArgs false
set_option linter.unusedVariables false
namespace Go.Proofs.Ytkaejoejaohpcaa
open Go.RowKit
theorem drewN_below (w : World) (q : Nat) : Below w.heap.size w (w.drewN q) := (Below.refl _ _).drewN q
set_option maxHeartbeats 800000 in
theorem clip_any (a : Option Addr) (n c : Nat) (w : World) (hc : n ≤ c) (hc' : c ≤ 9223372036854775807) :
    Calls Try.prog 24 #[.slice a n c] w fun e w' => e = .returned (.slice a n n) ∧ w = w' := by
  go_enter Try.func24, Try.ntmps24
  go_wp2_with fail
  go_ret
  exact ⟨rfl, rfl⟩
set_option maxHeartbeats 800000 in
theorem trim_any (a : Option Addr) (n c : Nat) (l : List Nat) (w : World) (h : Rd w (.slice a n c) (castN l)) :
    Calls Try.prog 19 #[.slice a n c] w fun e w' => e = .returned (.slice a (trimL l).length (trimL l).length) ∧ Rd w (.slice a (trimL l).length (trimL l).length) (castN (trimL l)) ∧ w = w' := by
  obtain ⟨hl, hc1, hc2⟩ := h.lenEq
  have HR := Lib.hid h
  have HL := Lib.hid hl
  have HEND : Hid (∀ m, m ≤ n → l.take m = trimL l → Calls Try.prog 24 #[.slice a m c] w fun e w' => e = .returned (.slice a (trimL l).length (trimL l).length) ∧ Rd w (.slice a (trimL l).length (trimL l).length) (castN (trimL l)) ∧ w = w') := fun m hm ht => by
    have e1 : (trimL l).length = m := by rw [← ht, List.length_take, hl]; omega
    refine (clip_any a m c w (by omega) hc2).mono ?_
    rintro e w' ⟨rfl, rfl⟩
    rw [e1]
    refine ⟨rfl, ?_, rfl⟩
    rw [← ht]
    exact h.take m m hm (Nat.le_refl _) (by omega)
  clear h hl
  go_enter Try.func19, Try.ntmps19
  go_wp2_with fail
  go_loopw [0] (fun sv wr => ∃ m : Nat, m ≤ n ∧ sv = .slice a m c ∧ Hid (trimL (l.take m) = trimL l) ∧ Hid (w = wr)) (fun sv _ => match sv with | .slice _ m _ => m | _ => 0)
  case atStart => exact ⟨n, Nat.le_refl _, rfl, by show _ = _; rw [List.take_of_length_le (by rw [HL.out]; exact Nat.le_refl _)], rfl⟩
  case round =>
    obtain ⟨m, hm, rfl, HT, HW⟩ := hrel
    have hw : w = wr := HW.out
    subst hw
    rcases Nat.eq_zero_or_pos m with h0 | h0
    · subst h0
      go_wp2_with fail
      refine (HEND.out 0 (by omega) (by rw [← HT.out]; simp [trimL])).mono ?_
      rintro e w' ⟨rfl, hr, rfl⟩
      have HR' := Lib.hid hr
      clear hr
      go_wp2_with fail
      go_ret
      exact ⟨rfl, HR'.out, rfl⟩
    · obtain ⟨b, off, rfl, hb, hcc⟩ := HR.out.at (by omega)
      obtain ⟨q, hq⟩ : ∃ q, m = q + 1 := ⟨m - 1, by omega⟩
      have cx := hcc q (by omega)
      have e1 : IntKind.i64.wrap ((m : Int) - 1) = (q : Int) := by rw [IntKind.wrap_i64]; omega
      have i1 : (0 ≤ (q : Int) ∧ (q : Int) < (m : Int)) = True := eq_true ⟨Int.natCast_nonneg _, by omega⟩
      have i2 : (0 ≤ (q : Int) ∧ (q : Int) ≤ (c : Int)) = True := eq_true ⟨Int.natCast_nonneg _, by omega⟩
      have i3 : (q : Int) ≤ (c : Int) := by omega
      have HTK : Hid (l.take m = l.take q ++ [l.getD q 0]) := by show _ = _; rw [hq]; exact take_last l q (by rw [HL.out]; omega)
      clear hcc
      by_cases hx : l.getD q 0 = 0
      · have HTn : Hid (trimL (l.take q) = trimL l) := by
          show _ = _
          rw [← HT.out, HTK.out, hx, trimL_zero]
        rw [hx] at cx
        have hqm : q < m := by omega
        have hqn : q ≤ n := by omega
        clear hx hq
        go_wp2_with fail
        go_roundw
        case rel => exact ⟨q, hqn, rfl, HTn.out, trivial⟩
        case measure => simp; omega
      · have HTn : Hid (l.take m = trimL l) := by
          show _ = _
          rw [← HT.out, HTK.out, trimL_last _ _ hx]
        have hqm : q < m := by omega
        have hx' : (((l.getD q 0 : Nat) : Int) == 0) = false := by rw [beq_eq_false_iff_ne]; omega
        generalize l.getD q 0 = x at *
        clear hx hq
        go_wp2_with fail
        refine (HEND.out m hm HTn.out).mono ?_
        rintro e w' ⟨rfl, hr, rfl⟩
        have HR' := Lib.hid hr
        clear hr
        go_wp2_with fail
        go_ret
        exact ⟨rfl, HR'.out, rfl⟩
set_option maxHeartbeats 800000 in
theorem word_any (a : Option Addr) (n c k : Nat) (l : List Nat) (w : World) (h : Rd w (.slice a n c) (castN l)) :
    Calls Try.prog 20 #[.slice a n c, .int .i64 k] w fun e w' => e = .returned (.int .u64 ((l.getD k 0 : Nat) : Int)) ∧ w = w' := by
  obtain ⟨hl, hc1, hc2⟩ := h.lenEq
  by_cases hk : k < n
  · obtain ⟨b, off, rfl, hb, hcc⟩ := h.at (by omega)
    have cx := hcc k hk
    have hkI : (k : Int) < (n : Int) := by omega
    clear hcc h
    generalize l.getD k 0 = x at *
    go_enter Try.func20, Try.ntmps20
    go_wp2_with fail
    go_ret
    exact ⟨rfl, rfl⟩
  · have hkI : ¬ (k : Int) < (n : Int) := by omega
    have e : l.getD k 0 = 0 := by rw [List.getD_eq_getElem?_getD, List.getElem?_eq_none (by omega)]; rfl
    rw [e]
    clear h e
    go_enter Try.func20, Try.ntmps20
    go_wp2_with fail
    go_ret
    exact ⟨rfl, rfl⟩
def rightB (l : List Nat) : Bool := decide (l.length ≤ 64) && (decide (l.length = 0) || decide (l.getD (l.length - 1) 0 ≠ 0))
theorem rightB_iff {l : List Nat} (hw : Wd l) : rightB l = true ↔ l.length ≤ 64 ∧ Canon l := by
  unfold rightB
  rw [canon_last l hw]
  simp
set_option maxHeartbeats 800000 in
theorem right_any (a : Option Addr) (n c : Nat) (l : List Nat) (w : World) (h : Rd w (.slice a n c) (castN l)) :
    Calls Try.prog 15 #[.slice a n c] w fun e w' => e = .returned (.bool (rightB l)) ∧ w = w' := by
  obtain ⟨hl, hc1, hc2⟩ := h.lenEq
  unfold rightB
  rw [hl]
  rcases Nat.eq_zero_or_pos n with h0 | h0
  · subst h0
    clear h hl
    go_enter Try.func15, Try.ntmps15
    go_wp2_with fail
    go_ret
    exact ⟨by simp, rfl⟩
  · obtain ⟨b, off, rfl, hb, hcc⟩ := h.at (by omega)
    obtain ⟨q, hq⟩ : ∃ q, n = q + 1 := ⟨n - 1, by omega⟩
    have cx := hcc q (by omega)
    have e1 : IntKind.i64.wrap ((n : Int) - 1) = (q : Int) := by rw [IntKind.wrap_i64]; omega
    have i1 : (0 ≤ (q : Int) ∧ (q : Int) < (n : Int)) = True := eq_true ⟨Int.natCast_nonneg _, by omega⟩
    have e0 : ((n : Int) == 0) = false := by rw [beq_eq_false_iff_ne]; omega
    have e2 : n - 1 = q := by omega
    rw [e2]
    have hn0 : n ≠ 0 := by omega
    have hqn : q < n := by omega
    clear hcc h hl e2
    generalize l.getD q 0 = x at *
    by_cases h64 : n ≤ 64
    · have h64I : (n : Int) ≤ 64 := by omega
      by_cases hx : x = 0
      · subst hx
        clear hq
        go_enter Try.func15, Try.ntmps15
        go_wp2_with fail
        go_ret
        exact ⟨by simp [hn0], rfl⟩
      · have ex : ((x : Int) != 0) = true := by rw [bne_iff_ne]; omega
        clear hq
        go_enter Try.func15, Try.ntmps15
        go_wp2_with fail
        go_ret
        exact ⟨by simp [hn0, hx, h64], rfl⟩
    · have h64I : ¬ (n : Int) ≤ 64 := by omega
      clear hq
      go_enter Try.func15, Try.ntmps15
      go_wp2_with fail
      go_ret
      exact ⟨by simp [h64], rfl⟩
set_option maxHeartbeats 800000 in
theorem fits_any (a : Option Addr) (n c : Nat) (w : World) :
    Calls Try.prog 18 #[.slice a n c] w fun e w' => e = .returned (if n ≤ 64 then .tuple #[.slice a n c, .int .i64 0] else .tuple #[.slice none 0 0, .int .i64 4]) ∧ w = w' := by
  by_cases h : n ≤ 64
  · have hI : ¬ (64 : Int) < (n : Int) := by omega
    rw [if_pos h]
    go_enter Try.func18, Try.ntmps18
    go_wp2_with fail
    go_ret2
    exact ⟨rfl, rfl⟩
  · have hI : (64 : Int) < (n : Int) := by omega
    rw [if_neg h]
    go_enter Try.func18, Try.ntmps18
    go_wp2_with fail
    go_ret2
    exact ⟨rfl, rfl⟩
end Go.Proofs.Ytkaejoejaohpcaa
