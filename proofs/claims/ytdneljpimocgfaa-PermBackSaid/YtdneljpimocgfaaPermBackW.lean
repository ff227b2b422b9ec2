/- The walk of PermBack. No condition. -/
import Derived.Test.YtdneljpimocgfaaBackL
set_option linter.unusedSimpArgs false
set_option linter.unusedVariables false
namespace Go.Proofs.Ytdneljpimocgfaa.permBack
open Go.RowKit Go.Proofs.Ytdneljpimocgfaa
theorem at_bad (n r : Int) (h : n < 0 ∨ 20 < n ∨ r < 0) (w : World) : Calls Try.prog 10 #[.int .i64 n, .int .i64 r] w fun e w' => e = .returned (.tuple #[.slice none 0 0, .int .i64 2]) ∧ w' = w := by
  by_cases k1 : n < 0
  · have f1 : decide (n < 0) = true := decide_eq_true k1
    clear h
    go_enter Try.func10, Try.ntmps10
    go_wp2_with fail
    go_ret2
    exact ⟨rfl, rfl⟩
  · have f1 : decide (n < 0) = false := decide_eq_false k1
    by_cases k2 : 20 < n
    · have f2 : decide (20 < n) = true := decide_eq_true k2
      clear h
      go_enter Try.func10, Try.ntmps10
      go_wp2_with fail
      go_ret2
      exact ⟨rfl, rfl⟩
    · have f2 : decide (20 < n) = false := decide_eq_false k2
      have f3 : decide (r < 0) = true := decide_eq_true (by omega)
      clear h
      go_enter Try.func10, Try.ntmps10
      go_wp2_with fail
      go_ret2
      exact ⟨rfl, rfl⟩
theorem rkP_le {zs : List Int} (h : OkP zs) : rkP zs ≤ 9223372036854775807 := by
  have hc : ∀ k, k < zs.length → cd (nd zs) zs.length k < zs.length - k := fun k hk => by have := cd_le (nd zs) zs.length k; omega
  have h1 := rk_lt hc (i := zs.length) (Nat.le_refl _)
  have h2 := ff_le h.1 h.1
  unfold rkP
  omega
theorem at_some (n : Nat) (w : World) : Calls Try.prog 10 #[.int .i64 n, .int .i64 0] w fun e w' => Below w.heap.size w w' ∧ ∃ u c, e = .returned (.tuple #[u, .int .i64 c]) := by
  by_cases h : n ≤ 20
  · refine (at_nat n 0 h (by omega) w).mono ?_
    rintro e w' ⟨hb, h1, h2⟩
    by_cases h0 : rq 0 n = 0
    · obtain ⟨u, rfl, _⟩ := h2 h0
      exact ⟨hb, u, _, rfl⟩
    · rw [h1 (by omega)]
      exact ⟨hb, _, _, rfl⟩
  · refine (at_bad n 0 (by omega) w).mono ?_
    rintro e w' ⟨rfl, rfl⟩
    exact ⟨Below.refl _ _, _, _, rfl⟩
/-- What Rank(c) and the last test say of what At(n, r) answers. -/
def Good (r : Int) (e : Ending) (w' : World) : Prop :=
  (∃ c : Int, c ≠ 0 ∧ e = .returned (.tuple #[.slice none 0 0, .int .i64 c])) ∨ ∃ u zs, e = .returned (.tuple #[u, .int .i64 0]) ∧ Rd w' u zs ∧ OkP zs ∧ (rkP zs : Int) = r
theorem at_good (n r : Int) (hr : r ≤ 9223372036854775807) (w : World) : Calls Try.prog 10 #[.int .i64 n, .int .i64 r] w fun e w' => Below w.heap.size w w' ∧ Good r e w' := by
  by_cases h : n < 0 ∨ 20 < n ∨ r < 0
  · refine (at_bad n r h w).mono ?_
    rintro e w' ⟨rfl, rfl⟩
    exact ⟨Below.refl _ _, .inl ⟨2, by decide, rfl⟩⟩
  · obtain ⟨m, rfl⟩ : ∃ m : Nat, n = m := ⟨n.toNat, by omega⟩
    obtain ⟨s, rfl⟩ : ∃ s : Nat, r = s := ⟨r.toNat, by omega⟩
    refine (at_nat m s (by omega) (by omega) w).mono ?_
    rintro e w' ⟨hb, h1, h2⟩
    by_cases h0 : rq s m = 0
    · obtain ⟨u, rfl, hu⟩ := h2 h0
      obtain ⟨g1, g2, g3⟩ := rank_at (show m ≤ 20 by omega) h0
      exact ⟨hb, .inr ⟨u, _, rfl, hu, g1, by rw [g3]⟩⟩
    · rw [h1 (by omega)]
      exact ⟨hb, .inl ⟨3, by decide, rfl⟩⟩
set_option maxHeartbeats 1600000 in
theorem walk_any (v : Value) (zs : List Int) (n r : Int) (w : World) (h : Rd w v zs) (hr : r ≤ 9223372036854775807) :
    Calls Try.prog 4 #[v, .int .i64 n, .int .i64 r] w fun e w' => e = .returned (.bool true) ∧ Below w.heap.size w w' := by
  have HR := Lib.hid h
  have HAT := Lib.hid (fun w => at_good n r hr w)
  obtain ⟨a, cap, rfl, hlc, hcm, -⟩ := h.open
  clear h hr
  go_enter Try.func4, Try.ntmps4
  go_wp2_with fail
  refine (alive_any _).mono ?_
  rintro e w1 ⟨rfl, hb1⟩
  have HB1 := Lib.hid hb1
  have HA1 := Lib.hid (HR.out.below hb1 (Nat.le_refl _))
  clear hb1
  go_wp2_with fail
  by_cases k1 : OkP zs
  · have hle := rkP_le k1
    have HAR := Lib.hid (at_rank k1)
    have hl := k1.1
    refine (rank_ok _ _ _ HA1.out k1).mono ?_
    rintro e w2 ⟨hb2, rfl⟩
    have HB2 := Lib.hid (HB1.out.trans (hb2.mono HB1.out.size))
    have HA2 := Lib.hid (HA1.out.below hb2 (Nat.le_refl _))
    clear hb2 k1
    have HA3 := Lib.hid (fun w => at_nat zs.length (rkP zs) hl hle w)
    generalize rkP zs = R at *
    go_wp2_with fail
    refine (HA3.out _).mono ?_
    rintro e w3 ⟨hb3, -, hp3⟩
    obtain ⟨u, rfl, hu⟩ := hp3 HAR.out.1
    rw [HAR.out.2] at hu
    have HB3 := Lib.hid (HB2.out.trans (hb3.mono HB2.out.size))
    have HA33 := Lib.hid (HA2.out.below hb3 (Nat.le_refl _))
    have HU := Lib.hid hu
    clear hb3 hp3 hu
    go_wp2_with fail
    refine (equal_any _ _ _ _ _ HU.out HA33.out).mono ?_
    rintro e w4 ⟨rfl, hb4⟩
    have HB4 := Lib.hid (HB3.out.trans (hb4.mono HB3.out.size))
    rw [decide_eq_true rfl]
    clear hb4
    go_wp2_with fail
    refine (HAT.out _).mono ?_
    rintro e w5 ⟨hb5, hg⟩
    have HB5 := Lib.hid (HB4.out.trans (hb5.mono HB4.out.size))
    clear hb5
    rcases hg with ⟨c, hc, rfl⟩ | ⟨u5, cs, rfl, hu5, hok, hrr⟩
    · have f1 : (c == 0) = false := by rw [beq_eq_false_iff_ne]; exact hc
      go_wp2_with fail
      refine (rank_ok _ [] _ (Rd.nil _) (by decide)).mono ?_
      rintro e w6 ⟨hb6, rfl⟩
      have HB6 := Lib.hid (HB5.out.trans (hb6.mono HB5.out.size))
      clear hb6
      generalize rkP [] = R2 at *
      go_wp2_with fail
      go_ret
      exact ⟨by simp [hc], HB6.out⟩
    · have HU5 := Lib.hid hu5
      have HOK := Lib.hid hok
      have HRR := Lib.hid hrr
      clear hu5 hok hrr
      go_wp2_with fail
      refine (rank_ok _ _ _ HU5.out HOK.out).mono ?_
      rintro e w6 ⟨hb6, rfl⟩
      have HB6 := Lib.hid (HB5.out.trans (hb6.mono HB5.out.size))
      have HU6 := Lib.hid (HU5.out.below hb6 (Nat.le_refl _))
      rw [HRR.out]
      clear hb6
      go_wp2_with fail
      have hrt := right_any _ _ _ HU6.out
      rw [decide_eq_true HOK.out] at hrt
      refine hrt.mono ?_
      rintro e w7 ⟨rfl, hb7⟩
      have HB7 := Lib.hid (HB6.out.trans (hb7.mono HB6.out.size))
      clear hb7 hrt
      go_wp2_with fail
      go_ret
      exact ⟨by simp, HB7.out⟩
  · refine (rank_bad _ _ _ HA1.out k1).mono ?_
    rintro e w2 ⟨hb2, rfl⟩
    have HB2 := Lib.hid (HB1.out.trans (hb2.mono HB1.out.size))
    have HA3 := Lib.hid (fun w => at_some zs.length w)
    clear hb2 k1
    go_wp2_with fail
    refine (HA3.out _).mono ?_
    rintro e w3 ⟨hb3, u, c3, rfl⟩
    have HB3 := Lib.hid (HB2.out.trans (hb3.mono HB2.out.size))
    clear hb3
    go_wp2_with fail
    refine (HAT.out _).mono ?_
    rintro e w5 ⟨hb5, hg⟩
    have HB5 := Lib.hid (HB3.out.trans (hb5.mono HB3.out.size))
    clear hb5
    rcases hg with ⟨c, hc, rfl⟩ | ⟨u5, cs, rfl, hu5, hok, hrr⟩
    · have f1 : (c == 0) = false := by rw [beq_eq_false_iff_ne]; exact hc
      go_wp2_with fail
      refine (rank_ok _ [] _ (Rd.nil _) (by decide)).mono ?_
      rintro e w6 ⟨hb6, rfl⟩
      have HB6 := Lib.hid (HB5.out.trans (hb6.mono HB5.out.size))
      clear hb6
      generalize rkP [] = R2 at *
      go_wp2_with fail
      go_ret
      exact ⟨by simp [hc], HB6.out⟩
    · have HU5 := Lib.hid hu5
      have HOK := Lib.hid hok
      have HRR := Lib.hid hrr
      clear hu5 hok hrr
      go_wp2_with fail
      refine (rank_ok _ _ _ HU5.out HOK.out).mono ?_
      rintro e w6 ⟨hb6, rfl⟩
      have HB6 := Lib.hid (HB5.out.trans (hb6.mono HB5.out.size))
      have HU6 := Lib.hid (HU5.out.below hb6 (Nat.le_refl _))
      rw [HRR.out]
      clear hb6
      go_wp2_with fail
      have hrt := right_any _ _ _ HU6.out
      rw [decide_eq_true HOK.out] at hrt
      refine hrt.mono ?_
      rintro e w7 ⟨rfl, hb7⟩
      have HB7 := Lib.hid (HB6.out.trans (hb7.mono HB6.out.size))
      clear hb7 hrt
      go_wp2_with fail
      go_ret
      exact ⟨by simp, HB7.out⟩
theorem walk (a0 : Option Addr) (len0 cap0 : Nat) (z0 : List Int) (n r : Int) (w : World) (w0 : IsRow .i64 w a0 len0 cap0 z0) (_ : (Lit.int .i64 n).wf = true) (hr : (Lit.int .i64 r).wf = true) :
    Calls Try.prog 4 #[.slice a0 len0 cap0, .int .i64 n, .int .i64 r] w fun e w' => e = .returned (.bool true) ∧ Below w.heap.size w w' :=
  walk_any _ _ n r w w0.rd.1 (bounds_i64 hr).2
end Go.Proofs.Ytdneljpimocgfaa.permBack
