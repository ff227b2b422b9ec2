/- The walk of QuantFew. Condition: rows within the reach. -/
import Derived.Test.YtompkgkfjlapjaaAl
import Derived.Test.YtompkgkfjlapjaaFewL
import Derived.Test.YtompkgkfjlapjaaEqual
set_option linter.unusedSimpArgs false
set_option linter.unusedVariables false
namespace Go.Proofs.Ytompkgkfjlapjaa.quantFew
open Go.RowKit Go.Proofs.Ytompkgkfjlapjaa
def nmL (l : List Rk) (k : Nat) : List Value := ((l.take k).map Rk.N).map (Value.int .i64)
set_option maxHeartbeats 1600000 in
theorem run (p : Int) (v : Value) (zs : List Int) (w : World) (h : Rd w v zs) (hr : zs.length * 8 ≤ 140737488351232) :
    Calls Try.prog 6 #[.int .i64 p, v] w fun e w' => e = .returned (.bool true) ∧ Below w.heap.size w w' := by
  obtain ⟨i3, hi3, hz0, hz1, hz2⟩ := info_parts Try.info3v
  obtain ⟨a, cap, rfl, hlc, hcm, hop⟩ := h.open
  have HR := Lib.hid h
  have HRE := Lib.hid hr
  generalize hn : zs.length = n at *
  have HN := Lib.hid hn
  have hnb : n ≤ 17592186043904 := by omega
  clear h hop hn hr
  go_enter Try.func6, Try.ntmps6
  go_wp2_with fail
  refine (alive_any w).mono ?_
  rintro e w1 ⟨rfl, hb1⟩
  have HB1 := Lib.hid hb1
  have HAL := Lib.hid (all_any p _ zs w1 (HR.out.below hb1 (Nat.le_refl _)))
  clear hb1
  go_wp2_with fail
  refine HAL.out.mono ?_
  rintro e w2 ⟨hb2, ⟨hp1, hp2, l, v', hall, rfl, ho, hinv, hl4, hc4⟩ | ⟨-, er, hne, rfl⟩⟩
  · have HB2 := Lib.hid (HB1.out.trans (hb2.mono HB1.out.size))
    obtain ⟨a', cap', rfl, -⟩ := ho.open
    by_cases hpn : p ≤ (n : Int)
    · have t1 : decide (p ≤ (n : Int)) = true := decide_eq_true hpn
      clear hb2 hall ho hinv hl4 hc4 HAL
      go_wp2_with fail
      go_ret
      exact ⟨rfl, HB2.out⟩
    · have t1 : decide (p ≤ (n : Int)) = false := decide_eq_false hpn
      obtain ⟨hf1, hf2⟩ := few_end hall (by rw [HN.out]; omega) hinv.srt
      have HFE : Hid (l.map Rk.N = srt zs) := hf2
      have HF1 := Lib.hid hf1
      generalize hln : l.length = m at *
      have HO := Lib.hid ho
      have HLN := Lib.hid hln
      have HTK : Hid (l.take m = l) := List.take_of_length_le (by omega)
      have HO0 : Hid (w2.ownsRow w2.heap.size 3 1 (.slice none 0 0) 0 (nmL l 0)) := World.ownsRow_nil _ _ _ _
      clear hb2 ho hinv hln hc4 hall hf1 hf2 HAL hpn
      go_wp2_with fail
      clear t1
      go_loopw [28, 7] (fun iv gv wr => ∃ k : Nat, k ≤ m ∧ iv = .int .i64 k ∧ Hid (wr.ownsRow w2.heap.size 3 1 gv k (nmL l k)) ∧ Hid (Below w2.heap.size w2 wr)) (fun iv _ _ => m - (intOf iv).toNat)
      case atStart => exact ⟨0, Nat.zero_le _, rfl, HO0.out, Below.refl _ _⟩
      case round =>
        clear HO0
        obtain ⟨k, hk, rfl, HG, HB⟩ := hrel
        by_cases hkm : k < m
        · obtain ⟨g, rfl, -, hgs, hcell⟩ := (HO.out.below HB.out (Nat.le_refl _)).at (show 0 < m by omega)
          obtain ⟨c0, c1, c2⟩ := hcell k hkm
          have hkl : k < l.length := by rw [HLN.out]; exact hkm
          obtain ⟨g1, g2⟩ := HF1.out _ (getD_mem l k hkl)
          rw [g1] at c1
          rw [g2] at c2
          have HTS : Hid (nmL l (k + 1) = nmL l k ++ [.int .i64 (l.getD k default).N]) := by
            show _ = _
            unfold nmL; rw [take_succ l k hkl, List.map_append, List.map_append]; rfl
          clear hcell g1 g2 hkl
          generalize (l.getD k default).N = N0 at *
          generalize (l.getD k default).Gap = G0 at *
          generalize (l.getD k default).More = M0 at *
          have hbs := HB.out.size
          have u1 : ((1 : Int) != 1) = false := rfl
          have u0 : ((0 : Int) != 0) = false := rfl
          go_wp2_with (at_builtin; go_must (refine push rfl _ _ 22 rfl w2.heap.size 3 i3 (.int .i64 0) 8 Try.underlying22 hi3 hz0 hz1 hz2 rfl _ k _ rfl (World.ownsRow.alloc HG.out _) (.int .i64 N0) (wr.heap.size + 1) rfl (by simp) rfl (by decide) (by omega) (by simp; omega) ?_))
          intro v5 w5 ho5 hg5
          have HB5 : Hid (Below w2.heap.size w2 w5) := grown_below hg5 (World.ownsRow.alloc HG.out _) (HB.out.alloc hbs _) (Nat.le_refl _) (by simp; omega)
          have HO5 : Hid (w5.ownsRow w2.heap.size 3 1 v5 (k + 1) (nmL l (k + 1))) := by
            show World.ownsRow _ _ _ _ _ _ _
            rw [HTS.out]; exact ho5
          clear ho5 hg5
          go_wp2_with fail
          exact ⟨⟨k + 1, by omega, by go_num, HO5.out, HB5.out⟩, by simp [intOf]; omega⟩
        · obtain rfl : k = m := by omega
          have HGR : Hid (Rd wr u7 (srt zs)) := by
            have := Rd.own (zs := (l.take k).map Rk.N) HG.out
            rw [HTK.out, HFE.out] at this
            exact this
          have HBW : Hid (Below w.heap.size w wr) := HB2.out.trans (HB.out.mono HB2.out.size)
          have HRX := Lib.hid (HR.out.below HBW.out (Nat.le_refl _))
          have HVA := Lib.hid (values_any _ zs wr HRX.out)
          have HSO := Lib.hid (sorted_any _ zs wr HRX.out (by rw [HN.out]; exact HRE.out))
          go_wp2_with fail
          refine HVA.out.mono ?_
          rintro e w3 ⟨rfl, rfl⟩
          go_wp2_with fail
          refine HSO.out.mono ?_
          rintro e w4 ⟨v4, rfl, ho4, hb4⟩
          have HB4 := Lib.hid (HBW.out.trans (hb4.mono HBW.out.size))
          have HEQ : Hid (Calls Try.prog 16 #[u7, v4] w4 fun e w' => e = .returned (.bool true) ∧ Below w4.heap.size w4 w') := (equal_any _ _ _ _ w4 (HGR.out.below hb4 (Nat.le_refl _)) (Rd.own ho4)).mono fun e w' ⟨h1, h2⟩ => ⟨by rw [h1]; simp, h2⟩
          clear hb4 ho4 HVA HSO
          go_wp2_with fail
          refine HEQ.out.mono ?_
          rintro e w5 ⟨rfl, hb5⟩
          have HB5 := Lib.hid (HB4.out.trans (hb5.mono HB4.out.size))
          clear hb5
          go_wp2_with fail
          go_ret
          exact ⟨rfl, HB5.out⟩
  · have HB2 := Lib.hid (HB1.out.trans (hb2.mono HB1.out.size))
    have hn1 : ((er : Int) != 0) = true := by rw [bne_iff_ne]; omega
    clear hb2 hne HAL
    go_wp2_with fail
    go_ret
    exact ⟨rfl, HB2.out⟩
theorem walk (p : Int) (a1 : Option Addr) (len1 cap1 : Nat) (z1 : List Int) (w : World) (w0 : (Lit.int .i64 p).wf = true) (w1 : IsRow .i64 w a1 len1 cap1 z1) (r1 : len1 * 8 ≤ 140737488351232) :
    Calls Try.prog 6 #[.int .i64 p, .slice a1 len1 cap1] w fun e w' => e = .returned (.bool true) ∧ Below w.heap.size w w' := by
  obtain ⟨h1, g1⟩ := w1.rd
  have hl : (z1.take len1).length = len1 := by
    obtain ⟨a', c', he, -⟩ := h1.open
    injection he with _ h5 _
    exact h5.symm
  exact run p _ _ w h1 (by rw [hl]; exact r1)
end Go.Proofs.Ytompkgkfjlapjaa.quantFew
