/- The walk of ComboEach. No condition. -/
import Derived.Test.YtmiejokgjbnciaaEachL
import Derived.Test.YtmiejokgjbnciaaEqual
set_option linter.unusedSimpArgs false
set_option linter.unusedVariables false
namespace Go.Proofs.Ytmiejokgjbnciaa.comboEach
open Go.RowKit Go.Proofs.Ytmiejokgjbnciaa
theorem next_is (n k i : Nat) (hn : n ≤ 9) (hk : k ≤ 9) (hi : i < (ea n k).length) (v : Value) (w : World) (h : Rd w v ((ea n k).getD i [])) :
    Calls Try.prog 14 #[.int .i64 n, v] w fun e w' => Below w.heap.size w w' ∧ ∃ v' c, e = .returned (.tuple #[v', .int .i64 c]) ∧ (i + 1 < (ea n k).length → c = 0 ∧ Rd w' v' ((ea n k).getD (i + 1) [])) ∧ (i + 1 = (ea n k).length → c = 3 ∧ v' = .slice none 0 0) := by
  obtain ⟨h1, h2, h3⟩ := law hn hk hi
  refine (next_ok n v _ w h h1).mono ?_
  rintro e w' ⟨hb, ⟨j, v', hj, hno, hm, rfl, hr⟩ | ⟨hno, rfl⟩⟩
  · have : nextF n ((ea n k).getD i []) = some (tab ((ea n k).getD i []).length (nxf (fun x => ((ea n k).getD i []).getD x 0) j)) := by
      unfold nextF
      rw [fm_some hm _ 0 (Nat.zero_le _) (by omega) (fun x _ hx => hno x hx)]; rfl
    rw [h3] at this
    refine ⟨hb, v', 0, rfl, fun hlt => ⟨rfl, ?_⟩, fun he => ?_⟩
    · rw [if_pos hlt] at this
      have := Option.some.inj this
      rw [this]; exact hr
    · rw [if_neg (by omega)] at this; cases this
  · have : nextF n ((ea n k).getD i []) = none := by
      unfold nextF
      rw [fm_none _ 0 (fun x _ hx => hno x (by omega))]; rfl
    rw [h3] at this
    refine ⟨hb, _, 3, rfl, fun hlt => ?_, fun _ => ⟨rfl, rfl⟩⟩
    rw [if_pos hlt] at this; cases this
theorem at_first (n k : Nat) (hn : n ≤ 9) (hk : k ≤ n) (w : World) :
    Calls Try.prog 11 #[.int .i64 n, .int .i64 k, .int .i64 0] w fun e w' => Below w.heap.size w w' ∧ ∃ v, e = .returned (.tuple #[v, .int .i64 0]) ∧ Rd w' v ((ea n k).getD 0 []) := by
  have hp := pas_pos n k hk
  have hl : 0 < (ea n k).length := by rw [ea_count]; exact hp
  refine (at_any n k 0 w).mono ?_
  rintro e w' ⟨hb, ⟨v, zs, rfl, hr, hzl, hzr, hrk, -⟩ | ⟨c, -, -, hno⟩⟩
  · refine ⟨hb, v, rfl, ?_⟩
    obtain ⟨h1, h2, -⟩ := law (n := n) (k := k) hn (by omega) hl
    have : zs = (ea n k).getD 0 [] := rk_inj hzr h1 (by
      rw [hzl, ea_row n k _ (by rw [List.getD_eq_getElem?_getD, List.getElem?_eq_getElem hl]; exact List.getElem_mem _)]; simp) (by omega)
    rw [← this]; exact hr
  · exact absurd ⟨by omega, by omega, by omega, by omega, by simpa using hp⟩ hno
set_option maxHeartbeats 1600000 in
set_option maxRecDepth 20000 in
theorem walk_ok (n k : Nat) (hn : n ≤ 9) (hk : k ≤ n) (w : World) :
    Calls Try.prog 4 #[.int .i64 n, .int .i64 k] w fun e w' => e = .returned (.bool true) ∧ Below w.heap.size w w' := by
  have HN := Lib.hid (fun i hi v w h => next_is n k i hn (by omega) hi v w h)
  have HA := Lib.hid (at_first n k hn hk)
  have HR : Hid (∀ i, i < (ea n k).length → ∀ v w, Rd w v ((ea n k).getD i []) → Calls Try.prog 12 #[.int .i64 n, v] w fun e w' => Below w.heap.size w w' ∧ e = .returned (.tuple #[.int .i64 i, .int .i64 0])) := fun i hi v w h => by
    obtain ⟨h1, h2, -⟩ := law (n := n) (k := k) hn (by omega) hi
    refine (rank_any n v _ w h).mono ?_
    rintro e w' ⟨hb, ⟨-, rfl⟩ | ⟨hno, -⟩⟩
    · exact ⟨hb, by rw [h2]⟩
    · exact absurd h1 hno
  have HO : Hid (∀ w, Calls Try.prog 9 #[.int .i64 n, .int .i64 k] w fun e w' => e = .returned (.tuple #[.int .i64 ((ea n k).length : Nat), .int .i64 0]) ∧ Below w.heap.size w w') := fun w => by
    have := Of_any n k (by omega) w
    rw [of_pas n k (by omega), ← ea_count] at this
    exact this
  have HE := Lib.hid (fun w => eall_ok k n w hn (by omega))
  have hpos : 0 < (ea n k).length := by rw [ea_count]; exact pas_pos n k hk
  have hlen : (ea n k).length ≤ 512 := Nat.le_trans (ea_len n k) (Nat.pow_le_pow_right (by omega) hn)
  generalize ea n k = L at *
  have f1 : decide ((n : Int) < 0) = false := decide_eq_false (by omega)
  have f2 : decide ((9 : Int) < (n : Int)) = false := decide_eq_false (by omega)
  have f3 : decide ((k : Int) < 0) = false := decide_eq_false (by omega)
  have f4 : decide ((n : Int) < (k : Int)) = false := decide_eq_false (by omega)
  go_enter Try.func4, Try.ntmps4
  go_wp2_with fail
  refine (alive_any _).mono ?_
  rintro e w1 ⟨rfl, hb⟩
  have H1 := Lib.hid hb
  clear hb
  go_wp2_with fail
  refine (HE.out _).mono ?_
  rintro e w2 ⟨hb, v2, rfl, hom⟩
  have H2 := Lib.hid (H1.out.trans (hb.mono H1.out.size))
  have hrd := hom.rd
  clear hb hom
  obtain ⟨a, cap, rfl, hlc, hcm, hop⟩ := hrd.open
  have HRM := Lib.hid hrd
  clear hrd hop
  go_wp2_with fail
  refine (HA.out _).mono ?_
  rintro e w3 ⟨hb, v3, rfl, hr3⟩
  have H3 := Lib.hid (H2.out.trans (hb.mono H2.out.size))
  have HRM3 := Lib.hid (HRM.out.below hb (Nat.le_refl _))
  have HR3 := Lib.hid hr3
  clear hb hr3 HRM
  obtain ⟨M, hM⟩ : ∃ M, L.length = M := ⟨_, rfl⟩
  have HRM3' : Hid (∀ wr, Below w3.heap.size w3 wr → ∃ (b off : Nat) (U : Nat → Value), a = some ⟨b, off, none⟩ ∧ ∀ i, i < M → wr.cell? ⟨b, off + i, none⟩ = some (U i) ∧ Rd wr (U i) (L.getD i [])) := fun wr hbel => by
    obtain ⟨a', cap', he, -, -, hop⟩ := (HRM3.out.below hbel (Nat.le_refl _)).open
    cases he
    obtain ⟨b, off, U, h1, -, h3⟩ := hop hpos
    exact ⟨b, off, U, h1, fun i hi => h3 i (by rw [hM]; exact hi)⟩
  rw [hM] at hpos hlen hlc HN HR HO ⊢
  clear hM HRM3 f1 f2 f3 f4
  go_wp2_with fail
  go_loopw [42, 6, 7, 8, 9, 10, 11] (fun iv cv ev _ _ _ _ wr => ∃ i : Nat, ∃ ee : Int, i ≤ M ∧ iv = .int .i64 i ∧ ev = .int .i64 ee ∧ Hid (i < M → ee = 0 ∧ Rd wr cv (L.getD i [])) ∧ Hid (i = M → ee = 3) ∧ Below w3.heap.size w3 wr) (fun iv _ _ _ _ _ _ _ => M - (intOf iv).toNat)
  case atStart => exact ⟨0, 0, Nat.zero_le _, rfl, rfl, fun _ => ⟨rfl, HR3.out⟩, fun h => by omega, Below.refl _ _⟩
  case round =>
    clear HR3
    obtain ⟨i, ee, hi, rfl, rfl, HC, HZ, hbel⟩ := hrel
    by_cases hlt : i < M
    · obtain ⟨rfl, hrc⟩ := HC.out hlt
      obtain ⟨b, off, U, rfl, hcU⟩ := HRM3'.out wr hbel
      obtain ⟨c1, r1⟩ := hcU i hlt
      have HBE := Lib.hid hbel
      have HRC := Lib.hid hrc
      have HR1 := Lib.hid r1
      clear HC HZ hcU hrc r1 hbel
      obtain ⟨av, cv, hUv, -, -, -⟩ := HR1.out.open
      rw [hUv] at c1 HR1
      clear hUv
      generalize (L.getD i []).length = m at *
      go_wp2_with fail
      refine (HR.out i hlt _ _ HRC.out).mono ?_
      rintro e w5 ⟨hb5, rfl⟩
      have HB5 := Lib.hid (HBE.out.trans (hb5.mono HBE.out.size))
      have HRC5 := Lib.hid (HRC.out.below hb5 (Nat.le_refl _))
      have HR5 := Lib.hid (HR1.out.below hb5 (Nat.le_refl _))
      clear hb5
      go_wp2_with fail
      refine (equal_any _ _ _ _ _ HRC5.out HR5.out).mono ?_
      rintro e w6 ⟨rfl, hb6⟩
      have HB6 := Lib.hid (HB5.out.trans (hb6.mono HB5.out.size))
      have HRC6 := Lib.hid (HRC5.out.below hb6 (Nat.le_refl _))
      clear hb6
      rw [decide_eq_true (rfl : L.getD i [] = L.getD i [])]
      go_wp2_with fail
      refine (HN.out i hlt _ _ HRC6.out).mono ?_
      rintro e w7 ⟨hb7, v7, c7, rfl, h71, h72⟩
      have HB7 := Lib.hid (HB6.out.trans (hb7.mono HB6.out.size))
      have H71 := Lib.hid h71
      have H72 := Lib.hid h72
      clear hb7 h71 h72
      go_wp2_with fail
      exact ⟨⟨i + 1, c7, by omega, by go_num, rfl, fun h => H71.out h, fun h => (H72.out h).1, HB7.out⟩, by simp [intOf]; omega⟩
    · obtain rfl : i = M := by omega
      obtain rfl : ee = 3 := HZ.out rfl
      clear HC HZ
      go_wp2_with fail
      refine (HO.out _).mono ?_
      rintro e w5 ⟨rfl, hb5⟩
      have HB5 := Lib.hid (H3.out.trans ((hbel.trans (hb5.mono hbel.size)).mono H3.out.size))
      clear hb5
      go_wp2_with fail
      go_ret
      exact ⟨by simp, HB5.out⟩
theorem walk (a0 a1 : Int) (w : World) (w0 : (Lit.int .i64 a0).wf = true) (w1 : (Lit.int .i64 a1).wf = true) :
    Calls Try.prog 4 #[.int .i64 a0, .int .i64 a1] w fun e w' => e = .returned (.bool true) ∧ Below w.heap.size w w' := by
  by_cases k1 : a0 < 0
  · have f1 : decide (a0 < 0) = true := decide_eq_true k1
    go_enter Try.func4, Try.ntmps4
    go_wp2_with fail
    refine (alive_any _).mono ?_
    rintro e w1 ⟨rfl, hb⟩
    have H1 := Lib.hid hb
    clear hb
    go_wp2_with fail
    go_ret
    exact ⟨rfl, H1.out⟩
  · have f1 : decide (a0 < 0) = false := decide_eq_false k1
    by_cases k2 : 9 < a0
    · have f2 : decide (9 < a0) = true := decide_eq_true k2
      go_enter Try.func4, Try.ntmps4
      go_wp2_with fail
      refine (alive_any _).mono ?_
      rintro e w1 ⟨rfl, hb⟩
      have H1 := Lib.hid hb
      clear hb
      go_wp2_with fail
      go_ret
      exact ⟨rfl, H1.out⟩
    · have f2 : decide (9 < a0) = false := decide_eq_false k2
      by_cases k3 : a1 < 0
      · have f3 : decide (a1 < 0) = true := decide_eq_true k3
        go_enter Try.func4, Try.ntmps4
        go_wp2_with fail
        refine (alive_any _).mono ?_
        rintro e w1 ⟨rfl, hb⟩
        have H1 := Lib.hid hb
        clear hb
        go_wp2_with fail
        go_ret
        exact ⟨rfl, H1.out⟩
      · have f3 : decide (a1 < 0) = false := decide_eq_false k3
        by_cases k4 : a0 < a1
        · have f4 : decide (a0 < a1) = true := decide_eq_true k4
          go_enter Try.func4, Try.ntmps4
          go_wp2_with fail
          refine (alive_any _).mono ?_
          rintro e w1 ⟨rfl, hb⟩
          have H1 := Lib.hid hb
          clear hb
          go_wp2_with fail
          go_ret
          exact ⟨rfl, H1.out⟩
        · obtain ⟨n, rfl⟩ : ∃ c : Nat, a0 = c := ⟨a0.toNat, by omega⟩
          obtain ⟨k, rfl⟩ : ∃ c : Nat, a1 = c := ⟨a1.toNat, by omega⟩
          exact walk_ok n k (by omega) (by omega) w
end Go.Proofs.Ytmiejokgjbnciaa.comboEach
