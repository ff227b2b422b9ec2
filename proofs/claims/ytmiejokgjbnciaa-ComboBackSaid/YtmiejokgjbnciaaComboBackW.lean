/- The walk of ComboBack. No condition. -/
import Derived.Test.YtmiejokgjbnciaaAl
import Derived.Test.YtmiejokgjbnciaaBackLaw
set_option linter.unusedSimpArgs false
set_option linter.unusedVariables false
namespace Go.Proofs.Ytmiejokgjbnciaa.comboBack
open Go.RowKit Go.Proofs.Ytmiejokgjbnciaa
theorem rank_some (n : Int) (v : Value) (zs : List Int) (w : World) (h : Rd w v zs) : Calls Try.prog 12 #[.int .i64 n, v] w fun e w' => Below w.heap.size w w' ∧ ∃ x c : Int, e = .returned (.tuple #[.int .i64 x, .int .i64 c]) :=
  (rank_any n v zs w h).mono fun e w' ⟨hb, h⟩ => ⟨hb, by rcases h with ⟨_, h⟩ | ⟨_, h⟩ <;> exact ⟨_, _, h⟩⟩
theorem at_some (n k r : Int) (w : World) : Calls Try.prog 11 #[.int .i64 n, .int .i64 k, .int .i64 r] w fun e w' => Below w.heap.size w w' ∧ ∃ v, ∃ c : Int, e = .returned (.tuple #[v, .int .i64 c]) :=
  (at_any n k r w).mono fun e w' ⟨hb, h⟩ => ⟨hb, by rcases h with ⟨v, zs, h, _⟩ | ⟨c, _, h, _⟩ <;> exact ⟨_, _, h⟩⟩
theorem rest_some (n : Int) (v : Value) (zs : List Int) (w : World) (h : Rd w v zs) : Calls Try.prog 16 #[.int .i64 n, v] w fun e w' => Below w.heap.size w w' ∧ ∃ v, ∃ c : Int, e = .returned (.tuple #[v, .int .i64 c]) := by
  by_cases hr : RightP n zs
  · have := rest_ok n.toNat v zs w h (by rw [show ((n.toNat : Nat) : Int) = n by have := hr.1; omega]; exact hr)
    rw [show ((n.toNat : Nat) : Int) = n by have := hr.1; omega] at this
    exact this.mono fun e w' ⟨h1, v', h2, _⟩ => ⟨h1, _, _, h2⟩
  · exact (rest_bad n v zs w h hr).mono fun e w' ⟨h1, h2⟩ => ⟨h1 ▸ Below.refl _ _, _, _, h2⟩
theorem at_back (n : Nat) (zs : List Int) (hr : RightP n zs) (w : World) : Calls Try.prog 11 #[.int .i64 n, .int .i64 (zs.length : Int), .int .i64 (rk zs : Nat)] w fun e w' => Below w.heap.size w w' ∧ ∃ v, e = .returned (.tuple #[v, .int .i64 0]) ∧ Rd w' v zs := by
  refine (at_any n zs.length (rk zs : Nat) w).mono ?_
  rintro e w' ⟨hb, ⟨v, ys, he, hrd, hl, hr2, hk, _⟩ | ⟨c, _, _, hn⟩⟩
  · refine ⟨hb, v, he, ?_⟩
    have : ys = zs := rk_inj hr2 hr (by simpa using hl) (by omega)
    rwa [this] at hrd
  · refine absurd ⟨by omega, ?_, by omega, by omega, ?_⟩ hn
    · have := hr.2.1; omega
    · have := rk_lt hr; simpa using this
set_option maxRecDepth 10000 in
set_option maxHeartbeats 1600000 in
theorem walk (a0 a1 a2 : Int) (a3 : Option Addr) (len3 cap3 : Nat) (z3 : List Int) (w : World) (w0 : (Lit.int .i64 a0).wf = true) (w1 : (Lit.int .i64 a1).wf = true) (w2 : (Lit.int .i64 a2).wf = true) (w3 : IsRow .i64 w a3 len3 cap3 z3) :
    Calls Try.prog 5 #[.int .i64 a0, .int .i64 a1, .int .i64 a2, .slice a3 len3 cap3] w fun e w' => e = .returned (.bool true) ∧ Below w.heap.size w w' := by
  have HRD := Lib.hid w3.rd.1
  have HLEN : Hid ((z3.take len3).length = len3) := by
    show _ = _
    obtain ⟨a, cap, he, _⟩ := HRD.out
    simp only [Value.slice.injEq] at he
    exact he.2.1.symm
  clear w0 w1 w2 w3
  generalize hzs : z3.take len3 = zs at *
  clear hzs
  go_enter Try.func5, Try.ntmps5
  go_wp2_with fail
  refine (alive_any _).mono ?_
  rintro e w1 ⟨rfl, hb1⟩
  have r1 := HRD.out.below hb1 (Nat.le_refl _)
  clear HRD
  go_wp2_with fail
  refine (at_any a0 a1 a2 _).mono ?_
  rintro e w2 ⟨hb2, ⟨va, za, rfl, ra, hla, hra, hrka, hk0⟩ | ⟨ca, hca, rfl, hna⟩⟩
  · have r2 := r1.below hb2 (Nat.le_refl _)
    have B2 := hb1.trans (hb2.mono hb1.size)
    clear hb1 hb2 r1
    go_wp2_with fail
    refine (rank_any a0 _ za _ ra).mono ?_
    rintro e w3 ⟨hb3, ⟨_, rfl⟩ | ⟨hno, _⟩⟩
    rotate_left
    · exact absurd hra hno
    rw [hrka]
    have ra3 := ra.below hb3 (Nat.le_refl _)
    have r3 := r2.below hb3 (Nat.le_refl _)
    have B3 := B2.trans (hb3.mono B2.size)
    obtain ⟨aa, capa, rfl, hac, hacm, hopa⟩ := ra.open
    obtain rfl : a1 = ((za.length : Nat) : Int) := by omega
    clear hla hk0
    have hl3 : (((za.length : Nat) : Int) != ((za.length : Nat) : Int)) = false := by simp
    have hl5 : (a2 != a2) = false := by simp
    clear hb3 r2 B2 ra hopa
    go_wp2_with fail
    refine (right_any a0 _ za _ ra3).mono ?_
    rintro e w4 ⟨rfl, b, rfl, hb⟩
    obtain rfl : b = true := hb.2 hra
    clear hb ra3 hra hrka
    go_wp2_with fail
    by_cases hR : RightP a0 zs
    · obtain ⟨n, rfl⟩ : ∃ n : Nat, a0 = n := ⟨a0.toNat, by have := hR.1; omega⟩
      refine (rank_any n _ zs _ r3).mono ?_
      rintro e w5 ⟨hb5, ⟨_, rfl⟩ | ⟨hno, _⟩⟩
      rotate_left
      · exact absurd hR hno
      have r5 := r3.below hb5 (Nat.le_refl _)
      have B5 := B3.trans (hb5.mono B3.size)
      clear hb5 r3 B3
      have HAB := Lib.hid (at_back n zs hR)
      rw [HLEN.out] at HAB
      have HRR := Lib.hid (rs_rs hR)
      have HRT := Lib.hid (rs_total hR)
      have HRU := Lib.hid (rs_right (n := n) zs (by have := hR.2.1; omega))
      have hn60 : (n : Int) ≤ 60 := hR.2.1
      have HRR0 := Lib.hid hR
      clear hR
      generalize rk zs = x at *
      go_wp2_with fail
      refine (HAB.out _).mono ?_
      rintro e w6 ⟨hb6, vy, rfl, ry⟩
      have r6 := r5.below hb6 (Nat.le_refl _)
      have B6 := B5.trans (hb6.mono B5.size)
      clear hb6 r5 B5
      go_wp2_with fail
      refine (rest_ok n _ zs _ r6 HRR0.out).mono ?_
      rintro e w7 ⟨hb7, vu, rfl, ru⟩
      have r7 := r6.below hb7 (Nat.le_refl _)
      have ry7 := ry.below hb7 (Nat.le_refl _)
      have B7 := B6.trans (hb7.mono B6.size)
      clear hb7 r6 B6 ry
      go_wp2_with fail
      refine (rest_ok n _ _ _ ru HRU.out).mono ?_
      rintro e w8 ⟨hb8, vv, rfl, rv⟩
      have r8 := r7.below hb8 (Nat.le_refl _)
      have ry8 := ry7.below hb8 (Nat.le_refl _)
      have ru8 := ru.below hb8 (Nat.le_refl _)
      have B8 := B7.trans (hb8.mono B7.size)
      rw [HRR.out] at rv
      clear hb8 r7 B7 ry7 ru
      go_wp2_with fail
      refine (equal_any _ _ zs zs _ ry8 r8).mono ?_
      rintro e w9 ⟨rfl, hb9⟩
      have r9 := r8.below hb9 (Nat.le_refl _)
      have rv9 := rv.below hb9 (Nat.le_refl _)
      have B9 := B8.trans (hb9.mono B8.size)
      obtain ⟨au, capu, rfl, huc, hucm, hopu⟩ := ru8.open
      have hut : ((rs zs n).length : Int) + (len3 : Int) = (n : Int) := by have := HRT.out; have := HLEN.out; omega
      have hnn : ((n : Int) == (n : Int)) = true := by simp
      clear hb9 r8 B8 rv ry8 ru8 hopu
      rw [show decide (zs = zs) = true by simp]
      go_wp2_with fail
      refine (equal_any _ _ zs zs _ rv9 r9).mono ?_
      rintro e w10 ⟨rfl, hb10⟩
      have B10 := Lib.hid (B9.trans (hb10.mono B9.size))
      clear hb10 r9 B9 rv9
      rw [show decide (zs = zs) = true by simp]
      go_wp2_with fail
      go_ret
      exact ⟨by simp, B10.out⟩
    · refine (rank_any a0 _ zs _ r3).mono ?_
      rintro e w5 ⟨hb5, ⟨hyes, _⟩ | ⟨_, rfl⟩⟩
      · exact absurd hyes hR
      have r5 := r3.below hb5 (Nat.le_refl _)
      have B5 := B3.trans (hb5.mono B3.size)
      clear hb5 r3 B3
      have HRR0 := Lib.hid hR
      clear hR
      go_wp2_with fail
      refine (at_some _ _ _ _).mono ?_
      rintro e w6 ⟨hb6, vy, cy, rfl⟩
      have r6 := r5.below hb6 (Nat.le_refl _)
      have B6 := B5.trans (hb6.mono B5.size)
      clear hb6 r5 B5
      go_wp2_with fail
      refine (rest_bad _ _ zs _ r6 HRR0.out).mono ?_
      rintro e w7 ⟨rfl, rfl⟩
      go_wp2_with fail
      refine (rest_some _ _ [] _ (Rd.nil _)).mono ?_
      rintro e w8 ⟨hb8, vv, cv, rfl⟩
      have B8 := Lib.hid (B6.trans (hb8.mono B6.size))
      clear hb8 B6 r6
      go_wp2_with fail
      go_ret
      exact ⟨by simp, B8.out⟩
  · have r2 := r1.below hb2 (Nat.le_refl _)
    have B2 := hb1.trans (hb2.mono hb1.size)
    clear hb1 hb2 r1
    go_wp2_with fail
    have hca' : (ca == 0) = false := by rw [beq_eq_false_iff_ne]; omega
    clear hna
    refine (rank_some a0 _ [] _ (Rd.nil _)).mono ?_
    rintro e w3 ⟨hb3, xx, cc, rfl⟩
    have r3 := r2.below hb3 (Nat.le_refl _)
    have B3 := B2.trans (hb3.mono B2.size)
    clear hb3 r2 B2
    go_wp2_with fail
    by_cases hR : RightP a0 zs
    · obtain ⟨n, rfl⟩ : ∃ n : Nat, a0 = n := ⟨a0.toNat, by have := hR.1; omega⟩
      refine (rank_any n _ zs _ r3).mono ?_
      rintro e w5 ⟨hb5, ⟨_, rfl⟩ | ⟨hno, _⟩⟩
      rotate_left
      · exact absurd hR hno
      have r5 := r3.below hb5 (Nat.le_refl _)
      have B5 := B3.trans (hb5.mono B3.size)
      clear hb5 r3 B3
      have HAB := Lib.hid (at_back n zs hR)
      rw [HLEN.out] at HAB
      have HRR := Lib.hid (rs_rs hR)
      have HRT := Lib.hid (rs_total hR)
      have HRU := Lib.hid (rs_right (n := n) zs (by have := hR.2.1; omega))
      have hn60 : (n : Int) ≤ 60 := hR.2.1
      have HRR0 := Lib.hid hR
      clear hR
      generalize rk zs = x at *
      go_wp2_with fail
      refine (HAB.out _).mono ?_
      rintro e w6 ⟨hb6, vy, rfl, ry⟩
      have r6 := r5.below hb6 (Nat.le_refl _)
      have B6 := B5.trans (hb6.mono B5.size)
      clear hb6 r5 B5
      go_wp2_with fail
      refine (rest_ok n _ zs _ r6 HRR0.out).mono ?_
      rintro e w7 ⟨hb7, vu, rfl, ru⟩
      have r7 := r6.below hb7 (Nat.le_refl _)
      have ry7 := ry.below hb7 (Nat.le_refl _)
      have B7 := B6.trans (hb7.mono B6.size)
      clear hb7 r6 B6 ry
      go_wp2_with fail
      refine (rest_ok n _ _ _ ru HRU.out).mono ?_
      rintro e w8 ⟨hb8, vv, rfl, rv⟩
      have r8 := r7.below hb8 (Nat.le_refl _)
      have ry8 := ry7.below hb8 (Nat.le_refl _)
      have ru8 := ru.below hb8 (Nat.le_refl _)
      have B8 := B7.trans (hb8.mono B7.size)
      rw [HRR.out] at rv
      clear hb8 r7 B7 ry7 ru
      go_wp2_with fail
      refine (equal_any _ _ zs zs _ ry8 r8).mono ?_
      rintro e w9 ⟨rfl, hb9⟩
      have r9 := r8.below hb9 (Nat.le_refl _)
      have rv9 := rv.below hb9 (Nat.le_refl _)
      have B9 := B8.trans (hb9.mono B8.size)
      obtain ⟨au, capu, rfl, huc, hucm, hopu⟩ := ru8.open
      have hut : ((rs zs n).length : Int) + (len3 : Int) = (n : Int) := by have := HRT.out; have := HLEN.out; omega
      have hnn : ((n : Int) == (n : Int)) = true := by simp
      clear hb9 r8 B8 rv ry8 ru8 hopu
      rw [show decide (zs = zs) = true by simp]
      go_wp2_with fail
      refine (equal_any _ _ zs zs _ rv9 r9).mono ?_
      rintro e w10 ⟨rfl, hb10⟩
      have B10 := Lib.hid (B9.trans (hb10.mono B9.size))
      clear hb10 r9 B9 rv9
      rw [show decide (zs = zs) = true by simp]
      go_wp2_with fail
      go_ret
      exact ⟨by simp, B10.out⟩
    · refine (rank_any a0 _ zs _ r3).mono ?_
      rintro e w5 ⟨hb5, ⟨hyes, _⟩ | ⟨_, rfl⟩⟩
      · exact absurd hyes hR
      have r5 := r3.below hb5 (Nat.le_refl _)
      have B5 := B3.trans (hb5.mono B3.size)
      clear hb5 r3 B3
      have HRR0 := Lib.hid hR
      clear hR
      go_wp2_with fail
      refine (at_some _ _ _ _).mono ?_
      rintro e w6 ⟨hb6, vy, cy, rfl⟩
      have r6 := r5.below hb6 (Nat.le_refl _)
      have B6 := B5.trans (hb6.mono B5.size)
      clear hb6 r5 B5
      go_wp2_with fail
      refine (rest_bad _ _ zs _ r6 HRR0.out).mono ?_
      rintro e w7 ⟨rfl, rfl⟩
      go_wp2_with fail
      refine (rest_some _ _ [] _ (Rd.nil _)).mono ?_
      rintro e w8 ⟨hb8, vv, cv, rfl⟩
      have B8 := Lib.hid (B6.trans (hb8.mono B6.size))
      clear hb8 B6 r6
      go_wp2_with fail
      go_ret
      exact ⟨by simp, B8.out⟩
end Go.Proofs.Ytmiejokgjbnciaa.comboBack
