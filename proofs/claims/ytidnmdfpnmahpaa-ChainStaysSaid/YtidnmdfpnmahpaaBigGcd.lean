/- (*Int).GCD: what it leaves. Condition: both below 2^64. -/
import Derived.Test.YtidnmdfpnmahpaaBigQuo
set_option linter.unusedSimpArgs false
set_option linter.unusedVariables false
set_option maxRecDepth 20000
namespace Go.Proofs.Ytidnmdfpnmahpaa.Big
open Go.RowKit
set_option maxHeartbeats 3200000 in
theorem gcd_any (zb zo m xb xo yb yo : Nat) (nx ny : Bool) (X Y : Nat) (w : World) (hB : Box w zb m) (ho : zo + 1 < m) (hx : NA w xb xo nx X) (hy : NA w yb yo ny Y) (hX : X < 18446744073709551616) (hY : Y < 18446744073709551616) :
    Calls Try.prog 26 #[.pointer (some ⟨zb, zo, none⟩), .pointer none, .pointer none, .pointer (some ⟨xb, xo, none⟩), .pointer (some ⟨yb, yo, none⟩)] w fun e w' => e = .returned (.pointer (some ⟨zb, zo, none⟩)) ∧ PutN w w' zb zo false (Nat.gcd X Y) := by
  have hzl := hB.lt
  have hxl := hx.lt
  have hyl := hy.lt
  have H1 := Lib.hid (abs_any w.heap.size 0 2 xb xo nx X (w.alloc (.cells #[.bool false, .slice none 0 0] 46)) (Box.new w 46) (by decide) (hx.below ((Below.refl _ _).alloc (Nat.le_refl _) _)) (by omega) (by omega))
  have HYY := Lib.hid hy
  have HBB := Lib.hid hB
  clear hB hx hy
  go_enter Try.func26, Try.ntmps26
  go_wp2_with fail
  refine H1.out.mono ?_
  rintro e w1 ⟨rfl, hp1⟩
  have hb1 : Below w.heap.size w w1 := ((Below.refl _ _).alloc (Nat.le_refl _) _).trans (hp1.below (Nat.le_refl _) (by simp))
  have HB1 := Lib.hid hb1
  have HPB := Lib.hid (hp1.box (Box.new w 46))
  have HPN := Lib.hid (hp1.at (Box.new w 46) (by decide))
  have hpl := HPB.out.lt
  have H2 := Lib.hid (abs_any w1.heap.size 0 2 yb yo ny Y (w1.alloc (.cells #[.bool false, .slice none 0 0] 46)) (Box.new w1 46) (by decide) ((HYY.out.below hb1).below ((Below.refl _ _).alloc (Nat.le_refl _) _)) (by omega) (by omega))
  clear hp1 hb1 H1
  go_wp2_with fail
  refine H2.out.mono ?_
  rintro e w2 ⟨rfl, hp2⟩
  have hb2 : Below w1.heap.size w1 w2 := ((Below.refl _ _).alloc (Nat.le_refl _) _).trans (hp2.below (Nat.le_refl _) (by simp))
  have HB2 := Lib.hid (HB1.out.trans (hb2.mono HB1.out.size))
  have HPN2 := Lib.hid (HPN.out.below hb2)
  have HQN2 := Lib.hid (hp2.at (Box.new w1 46) (by decide))
  have hs1 := HB1.out.size
  have HZB2 := Lib.hid (HBB.out.below HB2.out hzl)
  have HSG := Lib.hid (sign_any w1.heap.size 0 false Y w2 HQN2.out)
  clear hp2 hb2 H2 HPN
  by_cases hY0 : Y = 0
  · have HE : Hid (Nat.gcd X Y = X) := by show _ = _; rw [hY0, Nat.gcd_zero_right]
    rw [show sgnI false Y = 0 by unfold sgnI; rw [if_pos hY0]] at HSG
    have HS := Lib.hid (set_any zb zo m w.heap.size 0 false X w2 HZB2.out ho HPN2.out (by omega) (by omega))
    clear hY0
    go_wp2_with fail
    refine wp_loop_rounds 1 ?_; rw [rounds_succ]
    go_wp2_with fail
    refine HSG.out.mono ?_
    rintro e w3 ⟨rfl, rfl⟩
    go_wp2_with fail
    refine HS.out.mono ?_
    rintro e w4 ⟨rfl, hp4⟩
    have HP := Lib.hid (PutN.pre HB2.out hzl hp4)
    clear hp4
    go_wp2_with fail
    go_ret
    exact ⟨rfl, by rw [HE.out]; exact HP.out⟩
  · rw [show sgnI false Y = 1 by unfold sgnI; rw [if_neg hY0]; rfl] at HSG
    have HU1 := Lib.hid (uint_any w.heap.size 0 false X w2 HPN2.out hX)
    have HU2 := Lib.hid (uint_any w1.heap.size 0 false Y w2 HQN2.out hY)
    have HS : Hid (∀ wq c, Below w2.heap.size w2 wq → c < 18446744073709551616 → Calls Try.prog 41 #[.pointer (some ⟨zb, zo, none⟩), .int .u64 (c : Nat)] wq fun e w' => e = .returned (.pointer (some ⟨zb, zo, none⟩)) ∧ PutN wq w' zb zo false c) := fun wq c hb hc => setu_any zb zo m c wq (HZB2.out.below hb HZB2.out.lt) ho hc
    obtain ⟨a, c, ds, c0, c1, hrd, hcn, hv, g1, g2, g3⟩ := HPN2.out.open
    obtain ⟨a', c', es, d0, d1, hrd', hcn', hv', g1', g2', g3'⟩ := HQN2.out.open
    have hl2 : ds.length ≤ 2 := (len_iff hcn 2).2 (by rw [hv]; exact hX)
    have hl2' : es.length ≤ 2 := (len_iff hcn' 2).2 (by rw [hv']; exact hY)
    generalize ds.length = n at *
    generalize es.length = k at *
    have q1 : decide ((n : Int) < 3) = true := decide_eq_true (by omega)
    have q2 : decide ((k : Int) < 3) = true := decide_eq_true (by omega)
    clear hrd hcn hv hrd' hcn' hv' g3 g3' hY0
    go_wp2_with fail
    refine wp_loop_rounds 1 ?_; rw [rounds_succ]
    go_wp2_with fail
    refine HSG.out.mono ?_
    rintro e w3 ⟨rfl, rfl⟩
    go_wp2_with fail
    refine HU1.out.mono ?_
    rintro e w3 ⟨rfl, rfl⟩
    go_wp2_with fail
    refine HU2.out.mono ?_
    rintro e w3 ⟨rfl, rfl⟩
    go_wp2_with fail
    go_loopw [13, 14] (fun cv dv wr => ∃ (cc d : Nat), cv = .int .u64 cc ∧ dv = .int .u64 d ∧ cc < 18446744073709551616 ∧ d < 18446744073709551616 ∧ Hid (Nat.gcd cc d = Nat.gcd X Y) ∧ Hid (Below w3.heap.size w3 wr)) (fun _ dv _ => (intOf dv).toNat)
    case atStart => exact ⟨X, Y, rfl, rfl, hX, hY, rfl, Below.refl _ _⟩
    case round =>
      obtain ⟨cc, d, rfl, rfl, hc, hd, HG, HBW⟩ := hrel
      rcases Nat.eq_zero_or_pos d with h0 | h0
      · subst h0
        have HE : Hid (Nat.gcd X Y = cc) := by show _ = _; rw [← HG.out, Nat.gcd_zero_right]
        have HSC := Lib.hid (HS.out wr cc HBW.out hc)
        go_wp2_with fail
        refine HSC.out.mono ?_
        rintro e w4 ⟨rfl, hp4⟩
        have HP := Lib.hid (PutN.pre (HB2.out.trans (HBW.out.mono HB2.out.size)) hzl hp4)
        clear hp4
        go_wp2_with fail
        go_ret
        exact ⟨rfl, by rw [HE.out]; exact HP.out⟩
      · obtain ⟨r, hr⟩ : ∃ r, cc % d = r := ⟨_, rfl⟩
        have hrd : r < d := by rw [← hr]; exact Nat.mod_lt _ h0
        have HG2 : Hid (Nat.gcd d r = Nat.gcd X Y) := by show _ = _; rw [← HG.out, ← hr, Nat.gcd_comm d, ← Nat.gcd_rec, Nat.gcd_comm]
        have e1 : (cc : Int) % (d : Int) = (r : Int) := by rw [← hr]; rfl
        have e2 : decide ((0 : Int) < (d : Int)) = true := decide_eq_true (by omega)
        have e3 : ((d : Int) == 0) = false := by rw [beq_eq_false_iff_ne]; omega
        have e4 : ((d : Int) = 0) = False := eq_false (by omega)
        clear hr
        go_wp2_with fail
        go_quiet (fail)
        go_wp2_with fail
        go_roundw
        case rel => exact ⟨d, r, rfl, by rw [e1], hd, by omega, HG2.out, HBW.out.drewN _⟩
        case measure => simp [intOf]; omega
end Go.Proofs.Ytidnmdfpnmahpaa.Big
