/- The walk of EvenFirst. No condition. -/
import Derived.Test.YtoedkeopepanoaaAlive
import Derived.Test.YtoedkeopepanoaaHad
set_option linter.unusedSimpArgs false
set_option linter.unusedVariables false
namespace Go.Proofs.Ytoedkeopepanoaa.evenFirst
open Go.RowKit Go.Proofs.Ytoedkeopepanoaa
theorem Try.info4 : (Try.prog.info? 4).map (fun i => (i.zero, i.size, i.bytes)) = some (some (.bool false), 1, 1) := by kernel_rfl
theorem valid_le {b d f : Nat} (h : Valid b d) (hf : f ≤ d) : Valid b f := by
  refine ⟨h.1, h.2.1, by omega, by have := h.2.2.2.1; omega, ?_⟩
  have h1 := h.2.2.2.2
  have h2 : b ^ f ≤ b ^ d := Nat.pow_le_pow_right (by have := h.1; omega) hf
  simp at h1 ⊢; omega
theorem kk_eq (b d f N i : Nat) (hb : 0 < b) (hf : f ≤ d) (hi : i < b ^ f) (hN : N % b ^ f = i) : ro b (N % b ^ d) d / (b ^ d / b ^ f) = ro b i f := by
  rw [Nat.pow_div hf hb, ro_first b N f d hb hf, hN]
set_option maxHeartbeats 800000 in
theorem walk_good (b d f fr : Nat) (hv : Valid b d) (hf : f ≤ d) (hfr : fr ≤ 1000) (hq : b ^ f ≤ 700) (w : World) : Calls Try.prog 4 #[.int .i64 b, .int .i64 d, .int .i64 f, .int .i64 fr] w fun e w' => e = .returned (.bool true) ∧ Below w.heap.size w w' := by
  obtain ⟨i0, hi, hz0, hz1, hz2⟩ := info_parts Try.info4
  have hb0 : 0 < b := by have := hv.1; omega
  have HV := Lib.hid hv
  have HV2 := Lib.hid (valid_le hv hf)
  have hp0 : 0 < b ^ d := Nat.pow_pos hb0
  have hq0 : 0 < b ^ f := Nat.pow_pos hb0
  have hp1 : b ^ d ≤ 1073741824 := by have := hv.2.2.2.2; simpa using this
  have hgp : 0 < b ^ d / b ^ f := by rw [Nat.pow_div hf hb0]; exact Nat.pow_pos hb0
  have hgl : b ^ d / b ^ f ≤ b ^ d := Nat.div_le_self _ _
  have HA := Lib.hid (fun w => all_any b d w)
  have HA2 := Lib.hid (fun w => all_any b f w)
  have HQ : Hid (((b : Int).toNat ^ (d : Int).toNat : Nat) = b ^ d) := by show _ = _; simp
  have HQ2 : Hid (((b : Int).toNat ^ (f : Int).toNat : Nat) = b ^ f) := by show _ = _; simp
  unfold AllPost at HA HA2
  rw [HQ.out] at HA
  rw [HQ2.out] at HA2
  clear HQ HQ2
  have HT : Hid (∀ i, i < b ^ f → ∀ w, Calls Try.prog 9 #[.int .i64 b, .int .i64 d, .int .i64 ((fr : Int) * (b ^ f : Nat) + (i : Nat))] w fun e w' => w = w' ∧ e = .returned (.tuple #[.int .i64 (ro b ((fr * b ^ f + i) % b ^ d) d : Nat), .int .i64 0])) := by
    intro i hi w
    have := turn_good b d (fr * b ^ f + i) hv w
    rw [Int.natCast_add, Int.natCast_mul] at this
    exact this
  have HK : Hid (∀ i, i < b ^ f → ro b ((fr * b ^ f + i) % b ^ d) d / (b ^ d / b ^ f) = ro b i f) := fun i hi =>
    kk_eq b d f _ i hb0 hf hi (by rw [Nat.mul_comm, Nat.mul_add_mod, Nat.mod_eq_of_lt hi])
  have HXL := Lib.hid (fun n => ro_lt b (n % b ^ d) d hb0)
  have HFL := Lib.hid (fun i => ro_lt b i f hb0)
  have HINJ := Lib.hid (fun i j h1 h2 h3 => ro_inj b i j f hb0 h1 h2 h3)
  have HG := Lib.hid (Int.natCast_ediv (b ^ d) (b ^ f))
  have hfm0 : 0 ≤ (fr : Int) * (b ^ f : Nat) := Int.mul_nonneg (by omega) (by omega)
  have hfm1 : (fr : Int) * (b ^ f : Nat) ≤ 1000 * 700 := Int.mul_le_mul (by omega) (by omega) (by omega) (by omega)
  clear hv
  generalize b ^ d = p at *
  generalize b ^ f = q at *
  have hpq : (p : Int) / (q : Int) = ((p / q : Nat) : Int) := HG.out.symm
  clear HG
  generalize p / q = g at *
  have HPQ := Lib.hid hpq; clear hpq
  go_enter Try.func4, Try.ntmps4
  go_wp2_with fail
  refine (alive_any _).mono ?_
  rintro e w1 ⟨rfl, hb1⟩
  go_wp2_with fail
  refine (HA.out _).mono ?_
  rintro e w' ⟨rfl, ⟨_, rfl⟩ | ⟨hnv, _⟩⟩
  rotate_left
  · exact absurd HV.out hnv
  go_wp2_with fail
  refine (HA2.out _).mono ?_
  rintro e w' ⟨rfl, ⟨_, rfl⟩ | ⟨hnv, _⟩⟩
  rotate_left
  · exact absurd HV2.out hnv
  have hws := hb1.size
  go_wp2_with (refine wpList_make_full _ rfl _ _ 28 rfl w1.heap.size 4 i0 (.bool false) 1 Try.underlying28 hi hz0 hz1 .i64 .i64 _ _ q rfl rfl rfl rfl ?b2 ?b3 (Nat.le_refl _) ?_)
  case b2 => rw [hz2]; omega
  case b3 => unfold maxLen; omega
  intro w4 hown hgr
  rw [falses_eq] at hown
  have hB4 : Below w1.heap.size w1 w4 := (Below.refl _ _).grown hgr (Nat.le_refl _) (fun k hk => by cases hk)
  clear hgr
  go_wp2_with fail
  generalize w1.heap.size = h at *
  go_loopw [60] (fun i wr => ∃ (k : Nat) (c : List Bool), k ≤ q ∧ i = .int .i64 k ∧ wr.ownsRow h 4 1 (.slice (some ⟨h, 0, none⟩) q q) q (c.map Value.bool) ∧ Hid (Had (fun i => ro b i f) c q k) ∧ Below h w1 wr) (fun i _ => q - (intOf i).toNat)
  case atStart => exact ⟨0, _, Nat.zero_le _, rfl, hown, Had.zero _ _, hB4⟩
  case round =>
    clear hown hB4
    obtain ⟨k, c, hk, rfl, hown, hhad, hbel⟩ := hrel
    by_cases hlt : k < q
    · go_wp2_with fail
      refine (HT.out k hlt _).mono ?_
      rintro e w' ⟨rfl, rfl⟩
      have hxl : ro b ((fr * q + k) % p) d < p := HXL.out _
      have hkk := HK.out k hlt
      have hfl : ro b k f < q := HFL.out k
      have hnew : c.getD (ro b k f) false = false := hhad.out.new hfl (fun i hi e => by have := HINJ.out i k (by omega) hlt e; omega)
      have c2 := ownb_get hown _ hfl
      rw [hnew] at c2
      have cf := hown.frozenAt (ro b k f)
      have HC2 : Hid (Had (fun i => ro b i f) (c.set (ro b k f) true) q (k + 1)) := hhad.out.step hfl
      have HB2 := Lib.hid (hbel.setCell (Nat.le_refl _) (p := ⟨h, ro b k f, none⟩) (.bool true))
      have HO3 := Lib.hid (ownb_set hown (ro b k f) true)
      generalize ro b ((fr * q + k) % p) d = x at *
      have hxg : (x : Int) / (g : Int) = ((ro b k f : Nat) : Int) := by rw [← hkk, Int.natCast_ediv]
      have hpq := HPQ.out
      clear hown hbel hhad hnew hkk
      generalize hkq : ro b k f = kk at *
      have HKQ := Lib.hid hkq; clear hkq
      go_wp2_with fail
      go_roundw
      case rel => exact ⟨k + 1, _, by omega, by go_num, HO3.out, HC2.out, HB2.out⟩
      case measure => simp [intOf]; omega
    · obtain rfl : k = q := by omega
      clear hown hhad
      go_wp2_with fail
      go_ret
      exact ⟨rfl, hb1.trans (hbel.mono hws)⟩
theorem walk_out (base digits first fr : Int) (hx : first < 0 ∨ digits < first ∨ fr < 0 ∨ 1000 < fr) (w : World) : Calls Try.prog 4 #[.int .i64 base, .int .i64 digits, .int .i64 first, .int .i64 fr] w fun e w' => e = .returned (.bool true) ∧ Below w.heap.size w w' := by
  have HX := Lib.hid hx; clear hx
  by_cases h1 : first < 0
  · clear HX
    go_enter Try.func4, Try.ntmps4
    go_wp2_with fail
    refine (alive_any _).mono ?_
    rintro e w1 ⟨rfl, hb1⟩
    go_wp2_with fail
    go_ret
    exact ⟨rfl, hb1⟩
  · by_cases h2 : digits < first
    · clear HX
      go_enter Try.func4, Try.ntmps4
      go_wp2_with fail
      refine (alive_any _).mono ?_
      rintro e w1 ⟨rfl, hb1⟩
      go_wp2_with fail
      go_ret
      exact ⟨rfl, hb1⟩
    · by_cases h3 : fr < 0
      · clear HX
        go_enter Try.func4, Try.ntmps4
        go_wp2_with fail
        refine (alive_any _).mono ?_
        rintro e w1 ⟨rfl, hb1⟩
        go_wp2_with fail
        go_ret
        exact ⟨rfl, hb1⟩
      · have h4 : 1000 < fr := by have := HX.out; omega
        clear HX
        go_enter Try.func4, Try.ntmps4
        go_wp2_with fail
        refine (alive_any _).mono ?_
        rintro e w1 ⟨rfl, hb1⟩
        go_wp2_with fail
        go_ret
        exact ⟨rfl, hb1⟩
theorem walk_bad (base digits first fr : Int) (h1 : 0 ≤ first) (h2 : first ≤ digits) (h3 : 0 ≤ fr) (h4 : fr ≤ 1000) (hx : ¬ (Valid base digits ∧ base.toNat ^ first.toNat ≤ 700)) (w : World) : Calls Try.prog 4 #[.int .i64 base, .int .i64 digits, .int .i64 first, .int .i64 fr] w fun e w' => e = .returned (.bool true) ∧ Below w.heap.size w w' := by
  have HX := Lib.hid hx; clear hx
  go_enter Try.func4, Try.ntmps4
  go_wp2_with fail
  refine (alive_any _).mono ?_
  rintro e w1 ⟨rfl, hb1⟩
  go_wp2_with fail
  refine (all_any base digits _).mono ?_
  rintro e w' ⟨rfl, ⟨hv, rfl⟩ | ⟨hnv, c, hc, rfl⟩⟩
  · have HB : Hid (700 < base.toNat ^ first.toNat) := by
      show _ < _
      rcases Nat.lt_or_ge 700 (base.toNat ^ first.toNat) with h | h
      · exact h
      · exact absurd ⟨hv, h⟩ HX.out
    clear hv HX
    generalize base.toNat ^ digits.toNat = p at *
    go_wp2_with fail
    refine (all_any base first _).mono ?_
    rintro e w' ⟨rfl, ⟨_, rfl⟩ | ⟨hnv, c, hc, rfl⟩⟩
    · have hb := HB.out
      clear HB
      generalize base.toNat ^ first.toNat = q at *
      go_wp2_with fail
      go_ret
      exact ⟨by simp, hb1⟩
    · have hc' : (c != 0) = true := by rw [bne_iff_ne]; omega
      clear HB
      go_wp2_with fail
      go_ret
      exact ⟨by simp, hb1⟩
  · have hc' : (c != 0) = true := by rw [bne_iff_ne]; omega
    go_wp2_with fail
    refine (all_any base first _).mono ?_
    rintro e w' ⟨rfl, ⟨_, rfl⟩ | ⟨_, c2, hc2, rfl⟩⟩
    · generalize base.toNat ^ first.toNat = q at *
      go_wp2_with fail
      go_ret
      exact ⟨by simp, hb1⟩
    · go_wp2_with fail
      go_ret
      exact ⟨by simp, hb1⟩
theorem walk (a0 a1 a2 a3 : Int) (w : World) (w0 : (Lit.int .i64 a0).wf = true) (w1 : (Lit.int .i64 a1).wf = true) (w2 : (Lit.int .i64 a2).wf = true) (w3 : (Lit.int .i64 a3).wf = true) :
    Calls Try.prog 4 #[.int .i64 a0, .int .i64 a1, .int .i64 a2, .int .i64 a3] w fun e w' => e = .returned (.bool true) ∧ Below w.heap.size w w' := by
  by_cases hx : a2 < 0 ∨ a1 < a2 ∨ a3 < 0 ∨ 1000 < a3
  · exact walk_out a0 a1 a2 a3 hx w
  · by_cases hv : Valid a0 a1 ∧ a0.toNat ^ a2.toNat ≤ 700
    · obtain ⟨b, rfl⟩ : ∃ b : Nat, a0 = b := ⟨a0.toNat, by have := hv.1.1; omega⟩
      obtain ⟨d, rfl⟩ : ∃ d : Nat, a1 = d := ⟨a1.toNat, by have := hv.1.2.2.1; omega⟩
      obtain ⟨n, rfl⟩ : ∃ n : Nat, a2 = n := ⟨a2.toNat, by omega⟩
      obtain ⟨m, rfl⟩ : ∃ m : Nat, a3 = m := ⟨a3.toNat, by omega⟩
      exact walk_good b d n m hv.1 (by omega) (by omega) (by simpa using hv.2) w
    · exact walk_bad a0 a1 a2 a3 (by omega) (by omega) (by omega) (by omega) hv w
end Go.Proofs.Ytoedkeopepanoaa.evenFirst
