/- The walk of EvenPairs. No condition. -/
import Derived.Test.YtoedkeopepanoaaAlive
import Derived.Test.YtoedkeopepanoaaHad
import Derived.Test.YtoedkeopepanoaaGcd
set_option linter.unusedSimpArgs false
set_option linter.unusedVariables false
namespace Go.Proofs.Ytoedkeopepanoaa.evenPairs
open Go.RowKit Go.Proofs.Ytoedkeopepanoaa
theorem Try.info4 : (Try.prog.info? 4).map (fun i => (i.zero, i.size, i.bytes)) = some (some (.bool false), 1, 1) := by kernel_rfl
theorem crt {p q F n m : Nat} (h : Nat.Coprime p q) (hn : n < p * q) (hm : m < p * q) (hp : (F + n) % p = (F + m) % p) (hq : (F + n) % q = (F + m) % q) : n = m := by
  have key : ∀ n m, n ≤ m → m < p * q → (F + n) % p = (F + m) % p → (F + n) % q = (F + m) % q → n = m := by
    intro n m hle hlt hp hq
    have d1 : p ∣ (F + m) - (F + n) := Nat.dvd_of_mod_eq_zero (Nat.sub_mod_eq_zero_of_mod_eq hp.symm)
    have d2 : q ∣ (F + m) - (F + n) := Nat.dvd_of_mod_eq_zero (Nat.sub_mod_eq_zero_of_mod_eq hq.symm)
    have d := h.mul_dvd_of_dvd_of_dvd d1 d2
    rw [show F + m - (F + n) = m - n by omega] at d
    have := Nat.eq_zero_of_dvd_of_lt d (by omega)
    omega
  rcases Nat.le_total n m with h | h
  · exact key n m h hm hp hq
  · exact (key m n h hn hp.symm hq.symm).symm
def fn (a i b j F n : Nat) : Nat := ro a ((F + n) % a ^ i) i * b ^ j + ro b ((F + n) % b ^ j) j
theorem fn_lt (a i b j F n : Nat) (ha : 0 < a) (hb : 0 < b) : fn a i b j F n < a ^ i * b ^ j := by
  unfold fn
  have h1 := ro_lt a ((F + n) % a ^ i) i ha
  have h2 := ro_lt b ((F + n) % b ^ j) j hb
  have h3 : (ro a ((F + n) % a ^ i) i + 1) * b ^ j ≤ a ^ i * b ^ j := Nat.mul_le_mul_right _ h1
  rw [Nat.add_mul, Nat.one_mul] at h3
  omega
theorem fn_inj (a i b j F n m : Nat) (ha : 0 < a) (hb : 0 < b) (hc : Nat.Coprime a b) (hn : n < a ^ i * b ^ j) (hm : m < a ^ i * b ^ j) (h : fn a i b j F n = fn a i b j F m) : n = m := by
  unfold fn at h
  have hq0 : 0 < b ^ j := Nat.pow_pos hb
  have hp0 : 0 < a ^ i := Nat.pow_pos ha
  have h2 := ro_lt b ((F + n) % b ^ j) j hb
  have h3 := ro_lt b ((F + m) % b ^ j) j hb
  have e2 : ro b ((F + n) % b ^ j) j = ro b ((F + m) % b ^ j) j := by
    have := congrArg (· % b ^ j) h
    simp only [Nat.mul_comm _ (b ^ j), Nat.mul_add_mod, Nat.mod_eq_of_lt h2, Nat.mod_eq_of_lt h3] at this
    exact this
  rw [e2] at h
  have e1 : ro a ((F + n) % a ^ i) i = ro a ((F + m) % a ^ i) i := Nat.eq_of_mul_eq_mul_right hq0 (Nat.add_right_cancel h)
  exact crt (hc.pow i j) hn hm (ro_inj a _ _ i ha (Nat.mod_lt _ hp0) (Nat.mod_lt _ hp0) e1) (ro_inj b _ _ j hb (Nat.mod_lt _ hq0) (Nat.mod_lt _ hq0) e2)
set_option maxHeartbeats 1600000 in
theorem walk_good (a i b j F : Nat) (h1 : Valid a i) (h2 : Valid b j) (hF : F ≤ 1048576) (hpq : a ^ i * b ^ j ≤ 700) (hc : Nat.gcd a b = 1) (w : World) :
    Calls Try.prog 5 #[.int .i64 a, .int .i64 i, .int .i64 b, .int .i64 j, .int .i64 F] w fun e w' => e = .returned (.bool true) ∧ Below w.heap.size w w' := by
  obtain ⟨i0, hi, hz0, hz1, hz2⟩ := info_parts Try.info4
  have ha0 : 0 < a := by have := h1.1; omega
  have hb0 : 0 < b := by have := h2.1; omega
  have HV := Lib.hid h1
  have HV2 := Lib.hid h2
  have hp0 : 0 < a ^ i := Nat.pow_pos ha0
  have hq0 : 0 < b ^ j := Nat.pow_pos hb0
  have HA := Lib.hid (fun w => all_any a i w)
  have HA2 := Lib.hid (fun w => all_any b j w)
  have HQ : Hid (((a : Int).toNat ^ (i : Int).toNat : Nat) = a ^ i) := by show _ = _; simp
  have HQ2 : Hid (((b : Int).toNat ^ (j : Int).toNat : Nat) = b ^ j) := by show _ = _; simp
  unfold AllPost at HA HA2
  rw [HQ.out] at HA
  rw [HQ2.out] at HA2
  clear HQ HQ2
  have HG : Hid (∀ w, Calls Try.prog 10 #[.int .i64 a, .int .i64 b] w fun e w' => e = .returned (.int .i64 1) ∧ Below w.heap.size w w') := by
    intro w
    have := gcd_any a b (by have := h1.2.1; omega) (by have := h2.2.1; omega) w
    rw [hc] at this; exact this
  have HP : Hid (∀ n w, Calls Try.prog 11 #[.int .i64 a, .int .i64 i, .int .i64 b, .int .i64 j, .int .i64 ((F : Int) + (n : Nat))] w fun e w' => w = w' ∧ e = .returned (.tuple #[.int .i64 (ro a ((F + n) % a ^ i) i : Nat), .int .i64 (ro b ((F + n) % b ^ j) j : Nat), .int .i64 0])) := by
    intro n w
    have := pair_good a i b j (F + n) h1 h2 w
    rw [Int.natCast_add] at this
    exact this
  have HX := Lib.hid (fun n => ro_lt a ((F + n) % a ^ i) i ha0)
  have HY := Lib.hid (fun n => ro_lt b ((F + n) % b ^ j) j hb0)
  have HL := Lib.hid (fun n => fn_lt a i b j F n ha0 hb0)
  have HI := Lib.hid (fun n m hn hm h => fn_inj a i b j F n m ha0 hb0 hc hn hm h)
  have HF : Hid (∀ n, fn a i b j F n = ro a ((F + n) % a ^ i) i * b ^ j + ro b ((F + n) % b ^ j) j) := fun n => rfl
  have hple : a ^ i ≤ 700 := Nat.le_trans (Nat.le_mul_of_pos_right _ hq0) hpq
  have hqle : b ^ j ≤ 700 := Nat.le_trans (Nat.le_mul_of_pos_left _ hp0) hpq
  clear h1 h2 hc
  generalize fn a i b j F = f at *
  generalize hp : a ^ i = p at *
  generalize hq : b ^ j = q at *
  have HPP := Lib.hid hp; have HQQ := Lib.hid hq
  clear hp hq
  have hPQ : (p : Int) * (q : Int) = ((p * q : Nat) : Int) := (Int.natCast_mul p q).symm
  generalize p * q = pq at *
  have HPQ := Lib.hid hPQ; clear hPQ
  have hm0 : 0 ≤ (p : Int) * (q : Int) := by rw [HPQ.out]; omega
  have hm1 : (p : Int) * (q : Int) ≤ 700 := by rw [HPQ.out]; omega
  go_enter Try.func5, Try.ntmps5
  go_wp2_with fail
  refine (alive_any _).mono ?_
  rintro e w1 ⟨rfl, hb1⟩
  go_wp2_with fail
  refine (HA.out _).mono ?_
  rintro e w' ⟨rfl, ⟨_, rfl⟩ | ⟨hnv, _⟩⟩
  rotate_left
  · exact absurd HV.out hnv
  go_wp2_with fail
  refine (HA2.out _).mono ?_
  rintro e w' ⟨rfl, ⟨_, rfl⟩ | ⟨hnv, _⟩⟩
  rotate_left
  · exact absurd HV2.out hnv
  go_wp2_with fail
  refine (HG.out _).mono ?_
  rintro e w2 ⟨rfl, hb2⟩
  have hB := hb1.trans (hb2.mono hb1.size)
  have hws := hB.size
  clear hb1 hb2
  have hPQ := HPQ.out
  go_wp2_with (refine wpList_make_full _ rfl _ _ 28 rfl w2.heap.size 4 i0 (.bool false) 1 Try.underlying28 hi hz0 hz1 .i64 .i64 _ _ pq rfl rfl rfl rfl ?b2 ?b3 (Nat.le_refl _) ?_)
  case b2 => rw [hz2]; omega
  case b3 => unfold maxLen; omega
  intro w4 hown hgr
  rw [falses_eq] at hown
  have hB4 : Below w2.heap.size w2 w4 := (Below.refl _ _).grown hgr (Nat.le_refl _) (fun k hk => by cases hk)
  clear hgr
  go_wp2_with fail
  generalize w2.heap.size = h at *
  go_loopw [67] (fun i wr => ∃ (k : Nat) (c : List Bool), k ≤ pq ∧ i = .int .i64 k ∧ wr.ownsRow h 4 1 (.slice (some ⟨h, 0, none⟩) pq pq) pq (c.map Value.bool) ∧ Hid (Had f c pq k) ∧ Below h w2 wr) (fun i _ => pq - (intOf i).toNat)
  case atStart => exact ⟨0, _, Nat.zero_le _, rfl, hown, Had.zero _ _, hB4⟩
  case round =>
    clear hown hB4
    obtain ⟨k, c, hk, rfl, hown, hhad, hbel⟩ := hrel
    by_cases hlt : k < pq
    · go_wp2_with fail
      refine (HP.out k _).mono ?_
      rintro e w' ⟨rfl, rfl⟩
      have hxl := HX.out k
      have hyl := HY.out k
      have hfk := HF.out k
      have hfl := HL.out k
      have hnew : c.getD (f k) false = false := hhad.out.new hfl (fun i hi e => by have := HI.out i k (by omega) hlt e; omega)
      have c2 := ownb_get hown _ hfl
      rw [hnew] at c2
      have cf := hown.frozenAt (f k)
      have HC2 : Hid (Had f (c.set (f k) true) pq (k + 1)) := hhad.out.step hfl
      have HB2 := Lib.hid (hbel.setCell (Nat.le_refl _) (p := ⟨h, f k, none⟩) (.bool true))
      have HO3 := Lib.hid (ownb_set hown (f k) true)
      generalize ro a ((F + k) % p) i = x at *
      generalize ro b ((F + k) % q) j = y at *
      have hfi : (x : Int) * (q : Int) + (y : Int) = ((f k : Nat) : Int) := by rw [hfk, Int.natCast_add, Int.natCast_mul]
      have hxq0 : 0 ≤ (x : Int) * (q : Int) := Int.mul_nonneg (by omega) (by omega)
      have hxq1 : (x : Int) * (q : Int) ≤ 700 * 700 := Int.mul_le_mul (by omega) (by omega) (by omega) (by omega)
      clear hown hbel hhad hnew hfk
      generalize f k = z at *
      go_wp2_with fail
      go_roundw
      case rel => exact ⟨k + 1, _, by omega, by go_num, HO3.out, HC2.out, HB2.out⟩
      case measure => simp [intOf]; omega
    · obtain rfl : k = pq := by omega
      clear hown hhad
      go_wp2_with fail
      go_ret
      exact ⟨rfl, hB.trans (hbel.mono hws)⟩
theorem walk_inv1 (a i b j F : Int) (hv : ¬ Valid a i) (w : World) : Calls Try.prog 5 #[.int .i64 a, .int .i64 i, .int .i64 b, .int .i64 j, .int .i64 F] w fun e w' => e = .returned (.bool true) ∧ Below w.heap.size w w' := by
  have HV := Lib.hid hv; clear hv
  go_enter Try.func5, Try.ntmps5
  go_wp2_with fail
  refine (alive_any _).mono ?_
  rintro e w1 ⟨rfl, hb1⟩
  go_wp2_with fail
  refine (all_any a i _).mono ?_
  rintro e w' ⟨rfl, ⟨hv, _⟩ | ⟨_, c, hc, rfl⟩⟩
  · exact absurd hv HV.out
  have hc' : (c != 0) = true := by rw [bne_iff_ne]; omega
  go_wp2_with fail
  refine (all_any b j _).mono ?_
  rintro e w' ⟨rfl, ⟨_, rfl⟩ | ⟨_, c2, hc2, rfl⟩⟩
  · generalize b.toNat ^ j.toNat = q at *
    go_wp2_with fail
    go_ret
    exact ⟨by simp, hb1⟩
  · go_wp2_with fail
    go_ret
    exact ⟨by simp, hb1⟩
theorem walk_inv2 (a i b j F : Int) (hv : Valid a i) (hv2 : ¬ Valid b j) (w : World) : Calls Try.prog 5 #[.int .i64 a, .int .i64 i, .int .i64 b, .int .i64 j, .int .i64 F] w fun e w' => e = .returned (.bool true) ∧ Below w.heap.size w w' := by
  have HV := Lib.hid hv; clear hv
  have HV2 := Lib.hid hv2; clear hv2
  go_enter Try.func5, Try.ntmps5
  go_wp2_with fail
  refine (alive_any _).mono ?_
  rintro e w1 ⟨rfl, hb1⟩
  go_wp2_with fail
  refine (all_any a i _).mono ?_
  rintro e w' ⟨rfl, ⟨_, rfl⟩ | ⟨hnv, _⟩⟩
  rotate_left
  · exact absurd HV.out hnv
  generalize a.toNat ^ i.toNat = p at *
  go_wp2_with fail
  refine (all_any b j _).mono ?_
  rintro e w' ⟨rfl, ⟨hv, _⟩ | ⟨_, c, hc, rfl⟩⟩
  · exact absurd hv HV2.out
  have hc' : (c != 0) = true := by rw [bne_iff_ne]; omega
  go_wp2_with fail
  go_ret
  exact ⟨by simp, hb1⟩
set_option maxHeartbeats 400000 in
theorem walk_big (a i b j F : Int) (hv : Valid a i) (hv2 : Valid b j) (hx : 700 < a.toNat ^ i.toNat * b.toNat ^ j.toNat ∨ F < 0 ∨ 1048576 < F ∨ Nat.gcd a.toNat b.toNat ≠ 1) (w : World) : Calls Try.prog 5 #[.int .i64 a, .int .i64 i, .int .i64 b, .int .i64 j, .int .i64 F] w fun e w' => e = .returned (.bool true) ∧ Below w.heap.size w w' := by
  have HV := Lib.hid hv
  have HV2 := Lib.hid hv2
  have HG : Hid (∀ w, Calls Try.prog 10 #[.int .i64 a, .int .i64 b] w fun e w' => e = .returned (.int .i64 (Nat.gcd a.toNat b.toNat : Nat)) ∧ Below w.heap.size w w') := by
    intro w
    have := gcd_any a.toNat b.toNat (by have := hv.1; have := hv.2.1; omega) (by have := hv2.1; have := hv2.2.1; omega) w
    rwa [Int.toNat_of_nonneg (by have := hv.1; omega), Int.toNat_of_nonneg (by have := hv2.1; omega)] at this
  have hp1 := hv.2.2.2.2
  have hq1 := hv2.2.2.2.2
  clear hv hv2
  have HX := Lib.hid hx; clear hx
  go_enter Try.func5, Try.ntmps5
  go_wp2_with fail
  refine (alive_any _).mono ?_
  rintro e w1 ⟨rfl, hb1⟩
  go_wp2_with fail
  refine (all_any a i _).mono ?_
  rintro e w' ⟨rfl, ⟨_, rfl⟩ | ⟨hnv, _⟩⟩
  rotate_left
  · exact absurd HV.out hnv
  generalize a.toNat ^ i.toNat = p at *
  go_wp2_with fail
  refine (all_any b j _).mono ?_
  rintro e w' ⟨rfl, ⟨_, rfl⟩ | ⟨hnv, _⟩⟩
  rotate_left
  · exact absurd HV2.out hnv
  generalize b.toNat ^ j.toNat = q at *
  have hm0 : 0 ≤ (p : Int) * (q : Int) := Int.mul_nonneg (by omega) (by omega)
  have hm1 : (p : Int) * (q : Int) ≤ 1073741824 * 1073741824 := Int.mul_le_mul (by omega) (by omega) (by omega) (by omega)
  by_cases c1 : 700 < (p : Int) * (q : Int)
  · clear HX
    go_wp2_with fail
    go_ret
    exact ⟨by simp, hb1⟩
  · by_cases c2 : F < 0
    · clear HX
      go_wp2_with fail
      go_ret
      exact ⟨by simp, hb1⟩
    · by_cases c3 : 1048576 < F
      · clear HX
        go_wp2_with fail
        go_ret
        exact ⟨by simp, hb1⟩
      · have hg : Nat.gcd a.toNat b.toNat ≠ 1 := by
          rcases HX.out with h | h | h | h
          · exfalso; apply c1; rw [← Int.natCast_mul]; omega
          · omega
          · omega
          · exact h
        clear HX
        generalize Nat.gcd a.toNat b.toNat = g at *
        have hg' : ((g : Int) != 1) = true := by rw [bne_iff_ne]; omega
        go_wp2_with fail
        refine (HG.out _).mono ?_
        rintro e w2 ⟨rfl, hb2⟩
        go_wp2_with fail
        go_ret
        exact ⟨by simp, hb1.trans (hb2.mono hb1.size)⟩
theorem walk (a0 a1 a2 a3 a4 : Int) (w : World) (w0 : (Lit.int .i64 a0).wf = true) (w1 : (Lit.int .i64 a1).wf = true) (w2 : (Lit.int .i64 a2).wf = true) (w3 : (Lit.int .i64 a3).wf = true) (w4 : (Lit.int .i64 a4).wf = true) :
    Calls Try.prog 5 #[.int .i64 a0, .int .i64 a1, .int .i64 a2, .int .i64 a3, .int .i64 a4] w fun e w' => e = .returned (.bool true) ∧ Below w.heap.size w w' := by
  by_cases hv : Valid a0 a1
  · by_cases hv2 : Valid a2 a3
    · by_cases hx : 700 < a0.toNat ^ a1.toNat * a2.toNat ^ a3.toNat ∨ a4 < 0 ∨ 1048576 < a4 ∨ Nat.gcd a0.toNat a2.toNat ≠ 1
      · exact walk_big a0 a1 a2 a3 a4 hv hv2 hx w
      · obtain ⟨a, rfl⟩ : ∃ b : Nat, a0 = b := ⟨a0.toNat, by have := hv.1; omega⟩
        obtain ⟨i, rfl⟩ : ∃ d : Nat, a1 = d := ⟨a1.toNat, by have := hv.2.2.1; omega⟩
        obtain ⟨b, rfl⟩ : ∃ b : Nat, a2 = b := ⟨a2.toNat, by have := hv2.1; omega⟩
        obtain ⟨j, rfl⟩ : ∃ d : Nat, a3 = d := ⟨a3.toNat, by have := hv2.2.2.1; omega⟩
        obtain ⟨F, rfl⟩ : ∃ n : Nat, a4 = n := ⟨a4.toNat, by omega⟩
        simp only [Int.toNat_natCast] at hx
        exact walk_good a i b j F hv hv2 (by omega) (by omega) (by omega) w
    · exact walk_inv2 a0 a1 a2 a3 a4 hv hv2 w
  · exact walk_inv1 a0 a1 a2 a3 a4 hv w
end Go.Proofs.Ytoedkeopepanoaa.evenPairs
