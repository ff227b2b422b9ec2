/- Walk of pps.Take. No condition. -/
import Derived.Test.YthkbcgafpaomnaaSum
set_option linter.unusedSimpArgs false
set_option linter.unusedVariables false
namespace Go.Proofs.Ythkbcgafpaomnaa
open Go.RowKit
theorem Try.info3' : (Try.prog.info? 3).map (fun i => (i.zero, i.size, i.bytes)) = some (some (.int .i64 0), 1, 8) := by kernel_rfl
def TakeBad (w : World) (e : Ending) (w' : World) : Prop := ∃ c : Int, e = .returned (.tuple #[.slice none 0 0, .int .i64 c]) ∧ 0 < c ∧ w = w'
def TakeOk (zs : List Int) (many start : Int) (w : World) (e : Ending) (w' : World) : Prop :=
  ∃ v, e = .returned (.tuple #[v, .int .i64 0]) ∧ w'.ownsRow w.heap.size 3 1 v (L zs many start zs.sum zs.length) ((tk zs many start zs.sum zs.length).map (Value.int .i64)) ∧ Below w.heap.size w w'
set_option maxHeartbeats 400000 in
theorem take_bad (v : Value) (zs : List Int) (many start : Int) (w : World) (h : Rd w v zs) (hg : ¬ (Good zs many ∧ 0 ≤ start ∧ start < zs.sum)) : Calls Try.prog 8 #[v, .int .i64 many, .int .i64 start] w (TakeBad w) := by
  have HR := Lib.hid h
  have HG := Lib.hid hg
  clear h hg
  by_cases hgood : Good zs many
  · by_cases h0 : start < 0
    · go_enter Try.func8, Try.ntmps8
      go_wp2_with fail
      refine (sum_any _ _ _ _ HR.out).mono ?_
      rintro e w1 ⟨s, c, rfl, rfl, hs, _⟩
      obtain ⟨rfl, rfl⟩ := hs hgood
      clear hs
      go_wp2_with fail
      go_ret2
      exact ⟨_, rfl, by decide, rfl⟩
    · have h1 : zs.sum ≤ start := by
        rcases Int.lt_or_le start zs.sum with h1 | h1
        · exact absurd ⟨hgood, by omega, h1⟩ HG.out
        · exact h1
      go_enter Try.func8, Try.ntmps8
      go_wp2_with fail
      refine (sum_any _ _ _ _ HR.out).mono ?_
      rintro e w1 ⟨s, c, rfl, rfl, hs, _⟩
      obtain ⟨rfl, rfl⟩ := hs hgood
      clear hs
      go_wp2_with fail
      go_ret2
      exact ⟨_, rfl, by decide, rfl⟩
  · go_enter Try.func8, Try.ntmps8
    go_wp2_with fail
    refine (sum_any _ _ _ _ HR.out).mono ?_
    rintro e w1 ⟨s, c, rfl, rfl, _, hs⟩
    obtain ⟨rfl, hc⟩ := hs hgood
    clear hs
    have hcb : (c != 0) = true := by rw [bne_iff_ne]; omega
    go_wp2_with fail
    go_ret2
    exact ⟨_, rfl, hc, rfl⟩
theorem own_len {w : World} {base : Nat} {e : TypeId} {v : Value} {n m : Nat} {xs : List Value} (h : w.ownsRow base e 1 v n xs) (hm : n = m) : w.ownsRow base e 1 v m xs := by subst hm; exact h
set_option maxHeartbeats 400000 in
theorem take_good (v : Value) (zs : List Int) (many start : Int) (w : World) (h : Rd w v zs) (hg : Good zs many) (h0 : 0 ≤ start) (h1 : start < zs.sum) : Calls Try.prog 8 #[v, .int .i64 many, .int .i64 start] w (TakeOk zs many start w) := by
  obtain ⟨i0, hi, hz0, hz1, hz2⟩ := info_parts Try.info3'
  have HR := Lib.hid h
  have HG := Lib.hid hg
  obtain ⟨a, cap, rfl, hlc, hcm, hop⟩ := h.open
  have HO := Lib.hid hop; clear hop h
  obtain ⟨g1, g2, g3, g4, g5⟩ := hg
  have hsb := (sum_bd zs g4)
  have HQ := Lib.hid (rfl : zs.sum = zs.sum)
  generalize hS : zs.sum = S at *
  clear HQ
  have HS := Lib.hid hS; clear hS
  have HB := Lib.hid g4; clear g4
  have HZ := Lib.hid (rfl : zs.length = zs.length)
  generalize hn : zs.length = n at *
  clear HZ
  have HN := Lib.hid hn; clear hn
  have hs0 : 0 < S := by omega
  have hs1 : S ≤ 419430400 := by omega
  clear g5
  go_enter Try.func8, Try.ntmps8
  go_wp2_with fail
  refine (sum_any _ _ _ _ HR.out).mono ?_
  rintro e w1 ⟨s, c, rfl, rfl, hs, _⟩
  obtain ⟨hs2, rfl⟩ := hs HG.out
  rw [HS.out] at hs2
  subst hs2
  clear hs
  go_wp2_with fail
  go_loopw [10, 11, 12, 36] (fun o en nx i wr => ∃ (k : Nat) (e x : Int), k ≤ n ∧ i = .int .i64 k ∧ en = .int .i64 e ∧ nx = .int .i64 x ∧ Hid (e = E zs many k) ∧ Hid (x = start + (L zs many start s k : Nat) * s) ∧ 0 ≤ e ∧ e ≤ 167772160000 ∧ 0 ≤ x ∧ x ≤ 200000000000 ∧
      wr.ownsRow w.heap.size 3 1 o (L zs many start s k) ((tk zs many start s k).map (Value.int .i64)) ∧ Below w.heap.size w wr) (fun _ _ _ i _ => n - (intOf i).toNat)
  case atStart => 
    have hL := L_zero zs many start s h0 hs0
    refine ⟨0, 0, start, Nat.zero_le _, rfl, rfl, rfl, by simp [Hid, E], by simp [Hid, hL], by omega, by omega, by omega, by omega, ?_, Below.refl _ _⟩
    rw [hL]; exact World.ownsRow_nil _ _ _ _
  case round =>
    obtain ⟨k, e, x, hk, rfl, rfl, rfl, he, hx, he0, he1, hx0, hx1, hown, hbel⟩ := hrel
    by_cases hlt : k < n
    · obtain ⟨b, off, rfl, hb, hc⟩ := HO.out k hlt
      have c1 : wr.cell? ⟨b, off + k, none⟩ = some (.int .i64 (zs.getD k 0)) := (hbel.cell (p := ⟨b, off + k, none⟩) hb).trans (hc k hlt)
      have hgk := HB.out _ (getD_mem zs k (by rw [HN.out]; exact hlt))
      have hmb := mul_bd hgk.1 hgk.2 (by omega) g3
      have HE : Hid (e + zs.getD k 0 * many = E zs many (k + 1)) := by
        show _ = _; rw [he.out]; exact (E_succ zs many k (by rw [HN.out]; exact hlt)).symm
      have hEb : e + zs.getD k 0 * many ≤ 167772160000 := by
        rw [HE.out]; exact (E_bd zs many (k + 1) (by rw [HN.out]; exact g1) HB.out (by omega) g3).2
      clear hc
      generalize zs.getD k 0 = y at *
      go_wp2_with fail
      have hE1 : 0 ≤ e + y * many := by omega
      generalize e + y * many = e1 at *
      clear c1 hgk hmb
      obtain ⟨wo, rfl⟩ : ∃ wo : World, wo = wr := ⟨_, rfl⟩
      go_loopw [10, 12] (fun o nx wr => ∃ (j : Nat) (x : Int), nx = .int .i64 x ∧ Hid (x = start + ((L zs many start s k + j : Nat) : Int) * s) ∧ Hid (j = 0 ∨ start + ((L zs many start s k + j - 1 : Nat) : Int) * s < e1) ∧ 0 ≤ x ∧ x ≤ 200000000000 ∧ (L zs many start s k : Int) + j ≤ x ∧
        wr.ownsRow w.heap.size 3 1 o (L zs many start s k + j) ((tk zs many start s k).map (Value.int .i64) ++ List.replicate j (.int .i64 k)) ∧ Below w.heap.size w wr) (fun _ nx _ => (e1 - intOf nx).toNat)
      case atStart =>
        refine ⟨0, x, rfl, hx, .inl rfl, hx0, hx1, ?_, by simpa using hown, hbel⟩
        have h2 := hx.out
        have h3 : (L zs many start s k : Int) * 1 ≤ (L zs many start s k : Int) * s := Int.mul_le_mul_of_nonneg_left (by omega) (by omega)
        omega
      case round =>
        obtain ⟨j, x, rfl, hx, hj, hx0, hx1, hLx, hown, hbel⟩ := hrel
        have hsz := hbel.size
        by_cases hlt2 : x < e1
        · have HX : Hid (x + s = start + ((L zs many start s k + (j + 1) : Nat) : Int) * s) := by
            show _ = _
            rw [hx.out, ← Nat.add_assoc, Int.natCast_add _ 1, Int.add_mul]; omega
          have HJ : Hid (j + 1 = 0 ∨ start + ((L zs many start s k + (j + 1) - 1 : Nat) : Int) * s < e1) := by
            right
            rw [show L zs many start s k + (j + 1) - 1 = L zs many start s k + j by omega, ← hx.out]; exact hlt2
          go_wp2_with (at_builtin; go_must (refine push rfl _ _ 22 rfl w.heap.size 3 i0 (.int .i64 0) 8 Try.underlying22 hi hz0 hz1 hz2 rfl _ (L zs many start s k + j) ((tk zs many start s k).map (Value.int .i64) ++ List.replicate j (.int .i64 k)) rfl hown (.int .i64 k) _ rfl rfl rfl (by decide) ?hk hsz ?_))
          case hk => omega
          intro v' w2 hown2 hg
          have hb2 := grown_below hg hown hbel (Nat.le_refl _) hsz
          clear hg hown hbel hsz
          go_wp2_with fail
          go_roundw
          case rel => exact ⟨j + 1, x + s, rfl, HX, HJ, by omega, by omega, by omega, by simpa [List.replicate_succ', Nat.add_assoc] using hown2, hb2⟩
          case measure => simp [intOf]; omega
        · have HL := L_step zs many start s k j (by rw [HN.out]; exact hlt) HB.out (by omega) hs0 (by rw [← HE.out, ← hx.out]; omega) (by rw [← HE.out]; exact hj.out)
          have HL' := Lib.hid HL; clear HL
          go_wp2_with fail
          go_roundw
          case rel =>
            refine ⟨k + 1, e1, x, by omega, by go_num, rfl, rfl, HE, ?_, by omega, by omega, hx0, hx1, ?_, hbel⟩
            · show _ = _; rw [HL'.out]; exact hx.out
            · rw [HL'.out]; simpa [tk, HL'.out] using hown
          case measure => simp [intOf]; omega
    · obtain rfl : k = n := by omega
      go_wp2_with fail
      go_ret2
      exact ⟨_, rfl, by rw [HS.out, HN.out]; exact hown, hbel⟩
end Go.Proofs.Ythkbcgafpaomnaa
