/- The walk of AliasScale. No condition. -/
import Derived.Test.YtambhciacmkdoaaScaleL
import Derived.Test.YtambhciacmkdoaaClone
set_option linter.unusedSimpArgs false
set_option linter.unusedVariables false
namespace Go.Proofs.Ytambhciacmkdoaa.aliasScale
open Go.RowKit Go.Proofs.Ytambhciacmkdoaa
theorem make_some (v : Value) (zs : List Int) (w : World) (h : Rd w v zs) : Calls Try.prog 9 #[v] w fun e w' => Below w.heap.size w w' ∧ ∃ u c, e = .returned (.tuple #[u, .int .i64 c]) := by
  by_cases he : smE zs = 0
  · obtain ⟨hok, h0, _⟩ := sm_ok he
    refine (make_ok v zs w h hok h0).mono ?_
    rintro e w' ⟨hb, g, rfl, _⟩
    exact ⟨hb, _, _, rfl⟩
  · refine (make_bad v zs w h he).mono ?_
    rintro e w' ⟨rfl, rfl⟩
    exact ⟨Below.refl _ _, _, _, rfl⟩
set_option maxHeartbeats 3200000 in
theorem walk_ok (v : Value) (zs : List Int) (b : Nat) (hb0 : 0 < b) (hb : b ≤ 20) (w : World) (h : Rd w v zs) (hcl : zs.length * 8 ≤ 140737488355328) :
    Calls Try.prog 5 #[v, .int .i64 b] w fun e w' => e = .returned (.bool true) ∧ Below w.heap.size w w' := by
  have HR := Lib.hid h
  have HCL := Lib.hid (fun w h => clone_any v zs w h hcl)
  have hn9 : zs.length ≤ 9223372036854775807 := by omega
  have HMG := Lib.hid (fun i k hk => mm_get zs (b : Int) i (k := k) hk)
  have HMS := Lib.hid (fun i hi => mm_step zs (b : Int) (i := i) hi)
  clear h hcl
  go_enter Try.func5, Try.ntmps5
  go_wp2_with fail
  refine (alive_any _).mono ?_
  rintro e w1 ⟨rfl, hb1⟩
  have HB1 := Lib.hid hb1
  have HA1 := Lib.hid (HR.out.below hb1 (Nat.le_refl _))
  clear hb1
  go_wp2_with fail
  refine (HCL.out _ HA1.out).mono ?_
  rintro e w2 ⟨vp, rfl, ho2, hb2⟩
  have HA2 := Lib.hid (HA1.out.below hb2 (Nat.le_refl _))
  have HB2 := Lib.hid (HB1.out.trans (hb2.mono HB1.out.size))
  have HB12 := Lib.hid hb2
  have key : ∃ cp ap, vp = .slice ap zs.length cp ∧ zs.length ≤ cp ∧ cp ≤ 9223372036854775807 ∧ (0 < zs.length → ∃ g, ap = some ⟨g, 0, none⟩ ∧ w1.heap.size ≤ g) := by
    by_cases h0 : 0 < zs.length
    · obtain ⟨g, cap, rfl, h1, h2, h3, _⟩ := own_open ho2 h0
      unfold maxLen at h2
      exact ⟨cap, _, rfl, h1, h2, fun _ => ⟨g, rfl, h3⟩⟩
    · obtain ⟨a, cap, rfl, h1, h2, _⟩ := (Rd.own ho2).open
      exact ⟨cap, a, rfl, h1, h2, fun h => absurd h h0⟩
  obtain ⟨cp, ap, rfl, hpc, hpm, hg⟩ := key
  have HO2 := Lib.hid ho2
  have HG := Lib.hid hg
  clear ho2 hb2 hg
  obtain ⟨n, hn⟩ : ∃ n, zs.length = n := ⟨_, rfl⟩
  have HLN := Lib.hid hn
  rw [hn] at HMG HMS HO2 HG hpc hn9 ⊢
  clear hn
  go_wp2_with fail
  go_loopw [24, 6] (fun iv _ wr => ∃ i : Nat, i ≤ n ∧ iv = .int .i64 i ∧ Below w1.heap.size w2 wr ∧ wr.ownsRow w1.heap.size 3 1 (.slice ap n cp) n ((mm zs b i).map (Value.int .i64))) (fun iv _ _ => n - (intOf iv).toNat)
  case atStart => exact ⟨0, Nat.zero_le _, rfl, Below.refl _ _, by rw [mm_zero]; exact HO2.out⟩
  case round =>
    clear HO2
    obtain ⟨i, hi, rfl, hbel, ho⟩ := hrel
    by_cases hlt : i < n
    · obtain ⟨g, rfl, hgb⟩ := HG.out (by omega)
      have ci := own_get ho i hlt
      rw [HMG.out i i hlt, if_neg (Nat.lt_irrefl i)] at ci
      have fi := World.ownsRow.frozenAt ho i
      have hs := own_set ho i (wrap64 (zs.getD i 0 * b))
      rw [HMS.out i hlt] at hs
      have HST := Lib.hid hs
      have HBS := Lib.hid (hbel.setCell (show w1.heap.size ≤ (⟨g, i, none⟩ : Addr).block from hgb) (.int .i64 (wrap64 (zs.getD i 0 * b))))
      clear ho hbel hs
      generalize zs.getD i 0 = x at *
      go_wp2_with fail
      exact ⟨⟨i + 1, by omega, by go_num, HBS.out, HST.out⟩, by simp [intOf]; omega⟩
    · obtain rfl : i = n := by omega
      have HRM := Lib.hid (Rd.own ho)
      have hb1r := HB12.out.trans hbel
      have HAR := Lib.hid (HA1.out.below hb1r (Nat.le_refl _))
      have HBR := Lib.hid (HB1.out.trans (hb1r.mono HB1.out.size))
      clear ho hbel hb1r
      by_cases he : smE zs = 0
      · obtain ⟨hok, h0, -⟩ := sm_ok he
        have hmo := make_ok v zs wr HAR.out hok h0
        go_wp2_with fail
        refine hmo.mono ?_
        rintro e w4 ⟨hb4, g, rfl, hos⟩
        have HRS := Lib.hid hos.rs
        have HB4 := Lib.hid (HBR.out.trans (hb4.mono HBR.out.size))
        have HRM4 := Lib.hid (HRM.out.below hb4 (Nat.le_refl _))
        clear hmo hos hb4
        by_cases he2 : smE (mm zs b i) = 0
        · obtain ⟨hok2, h02, -⟩ := sm_ok he2
          have hmo2 := make_ok _ _ w4 HRM4.out hok2 h02
          go_wp2_with fail
          refine hmo2.mono ?_
          rintro e w5 ⟨hb5, g', rfl, hos5⟩
          have HRS5 := hos5.rs
          have HB5 := Lib.hid (HB4.out.trans (hb5.mono HB4.out.size))
          have HRS1 := Lib.hid (HRS.out.below hb5 (Nat.le_refl _))
          have HSb : tot (nd zs) zs.length ≤ 419430400 := by
            have := tot_le (f := nd zs) (c := 1048576) (k := zs.length) (fun i _ => hok.le i)
            have h2 := Nat.mul_le_mul hok.2.1 (Nat.le_refl 1048576)
            omega
          have hn4 := hok.2.1
          have HV : Hid (∀ k, k < i → (fin i (tot (nd zs) i) (nd zs)).V k ≤ 419430400 ∧ (fin i (tot (nd zs) i) (nd zs)).T k < i) := fun k hk => by
            have h1 := fin_two (n := zs.length) (f := nd zs) rfl (Nat.pos_of_ne_zero h0) (k := k) (by rw [HLN.out]; exact hk)
            rw [HLN.out] at h1 HSb
            exact ⟨by omega, h1.2.1⟩
          have hmn := mm_ok hok hb
          have htm : tot (nd (mm zs (b : Int) zs.length)) zs.length = b * tot (nd zs) zs.length := by rw [hmn, tot_mul, Nat.mul_comm]
          rw [mm_len] at HRS5
          rw [← HLN.out] at HRS5
          rw [htm, hmn, fin_scl hb0] at HRS5
          rw [HLN.out] at HRS5 HRS1 hn4
          have HR5 := Lib.hid HRS5
          have hl2 : (mm zs (b : Int) i).length = i := by rw [mm_len, HLN.out]
          rw [HLN.out, hl2]
          clear hmo2 hos5 HRS5 hb5 hmn htm he he2 h0 h02 hok hok2 HSb hl2
          generalize fin i (tot (nd zs) i) (nd zs) = F at *
          go_wp2_with fail
          go_loopw [53, 11] (fun kv _ wr => ∃ k q : Nat, k ≤ i ∧ kv = .int .i64 k ∧ wr = w5.drewN q) (fun kv _ _ => i - (intOf kv).toNat)
          case atStart => exact ⟨0, 0, Nat.zero_le _, rfl, rfl⟩
          case round =>
            obtain ⟨k, q, hk, rfl, rfl⟩ := hrel
            by_cases hlt : k < i
            · obtain ⟨a1, a2⟩ := HRS1.out.2 k hlt
              obtain ⟨c1', c2'⟩ := HR5.out.2 k hlt
              have b1 : w5.cell? ⟨g', k * 2, none⟩ = some (.int .i64 ((b * F.V k : Nat) : Int)) := c1'
              have b2 : w5.cell? ⟨g', k * 2 + 1, none⟩ = some (.int .i64 (F.T k : Nat)) := c2'
              clear c1' c2'
              obtain ⟨v1, v2⟩ := HV.out k hlt
              have hm := Nat.mul_le_mul hb v1
              have hpr : (b : Int) * (F.V k : Int) = ((b * F.V k : Nat) : Int) := rfl
              obtain ⟨m, hm2⟩ : ∃ m, b * F.V k = m := ⟨_, rfl⟩
              rw [hm2] at hpr b1 hm
              have q1 : IntKind.i64.wrap ((b : Int) * (F.V k : Int)) = (m : Int) := by rw [hpr, IntKind.wrap_i64]; omega
              have g1 : ((i : Int) ≤ (k : Int)) = False := eq_false (by omega)
              have g2 : (i ≤ k) = False := eq_false (by omega)
              clear hm2
              generalize F.V k = x at *
              generalize F.T k = y at *
              have f5 : decide ((i : Int) ≤ (k : Int)) = false := decide_eq_false (by omega)
              have q3 : ((m : Int) != (m : Int)) = false := by simp
              have q5 : IntKind.i64.wrap (m : Int) = (m : Int) := by rw [IntKind.wrap_i64]; omega
              have q4 : ((y : Int) != (y : Int)) = false := by simp
              go_wp2_with fail
              go_quiet (fail)
              go_wp2_with fail
              exact ⟨⟨k + 1, _, by omega, by go_num, rfl⟩, by simp [intOf]; omega⟩
            · obtain rfl : k = i := by omega
              have HBE := Lib.hid (HB5.out.drewN q)
              go_wp2_with fail
              go_ret
              exact ⟨by simp, HBE.out⟩
        · have hmb := make_bad _ _ w4 HRM4.out he2
          generalize smE (mm zs b i) = se at *
          have f1 : ((se : Int) == 0) = false := by rw [beq_eq_false_iff_ne]; omega
          go_wp2_with fail
          refine hmb.mono ?_
          rintro e w5 ⟨rfl, rfl⟩
          clear hmb
          go_wp2_with fail
          go_ret
          exact ⟨rfl, HB4.out⟩
      · have hmb := make_bad _ _ wr HAR.out he
        have hms := Lib.hid (make_some _ _ wr HRM.out)
        generalize smE zs = se at *
        have f1 : ((se : Int) == 0) = false := by rw [beq_eq_false_iff_ne]; omega
        go_wp2_with fail
        refine hmb.mono ?_
        rintro e w4 ⟨rfl, rfl⟩
        clear hmb
        go_wp2_with fail
        refine hms.out.mono ?_
        rintro e w5 ⟨hb5, u, c, rfl⟩
        have HB5 := Lib.hid (HBR.out.trans (hb5.mono HBR.out.size))
        clear hb5
        go_wp2_with fail
        go_ret
        exact ⟨rfl, HB5.out⟩
theorem walk (a0 : Option Addr) (len0 cap0 : Nat) (z0 : List Int) (b : Int) (w : World) (w0 : IsRow .i64 w a0 len0 cap0 z0) (r0 : len0 * 8 ≤ 140737488351232) (_ : (Lit.int .i64 b).wf = true) :
    Calls Try.prog 5 #[.slice a0 len0 cap0, .int .i64 b] w fun e w' => e = .returned (.bool true) ∧ Below w.heap.size w w' := by
  by_cases h : 1 ≤ b ∧ b ≤ 20
  · obtain ⟨m, rfl⟩ : ∃ m : Nat, b = m := ⟨b.toNat, by omega⟩
    have hl : (z0.take len0).length ≤ len0 := List.length_take_le _ _
    exact walk_ok _ _ m (by omega) (by omega) w w0.rd.1 (by omega)
  · by_cases h0 : b < 1
    · have c1 : decide (b < 1) = true := decide_eq_true h0
      clear h
      go_enter Try.func5, Try.ntmps5
      go_wp2_with fail
      refine (alive_any _).mono ?_
      rintro e w1 ⟨rfl, hb1⟩
      have HB1 := Lib.hid hb1
      clear hb1
      go_wp2_with fail
      go_ret
      exact ⟨rfl, HB1.out⟩
    · have c1 : decide (b < 1) = false := decide_eq_false h0
      have c2 : decide (20 < b) = true := decide_eq_true (by omega)
      clear h
      go_enter Try.func5, Try.ntmps5
      go_wp2_with fail
      refine (alive_any _).mono ?_
      rintro e w1 ⟨rfl, hb1⟩
      have HB1 := Lib.hid hb1
      clear hb1
      go_wp2_with fail
      go_ret
      exact ⟨rfl, HB1.out⟩
end Go.Proofs.Ytambhciacmkdoaa.aliasScale
