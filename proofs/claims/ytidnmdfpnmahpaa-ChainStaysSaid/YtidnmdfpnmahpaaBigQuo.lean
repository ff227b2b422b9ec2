/- (*Int).QuoRem, Quo: what they leave. Condition: both below 2^64, the divisor is not nought. -/
import Derived.Test.YtidnmdfpnmahpaaBigMul
set_option linter.unusedSimpArgs false
set_option linter.unusedVariables false
set_option maxRecDepth 20000
namespace Go.Proofs.Ytidnmdfpnmahpaa.Big
open Go.RowKit
/-- Another box, newer than w0, is filled. -/
theorem Put.skip {w0 w2 w3 : World} {zb o rb ro : Nat} {ng n2 : Bool} {v v2 : Value} (h : Put w0 w2 zb o ng v) (h2 : Put w2 w3 rb ro n2 v2) (hle : w0.heap.size ≤ rb) (hz : zb < w0.heap.size) : Put w0 w3 zb o ng v :=
  ⟨h2.os.trans h.os, h2.tape.trans h.tape, h2.output.trans h.output, Nat.le_trans h.size h2.size, fun i hi hne => (h2.block i (Nat.lt_of_lt_of_le hi h.size) (by omega)).trans (h.block i hi hne), fun cs t hh => (h2.block zb (Nat.lt_of_lt_of_le hz h.size) (by omega)).trans (h.here cs t hh)⟩
theorem PutN.skip {w0 w2 w3 : World} {zb o rb ro m : Nat} {ng n2 : Bool} {N : Nat} {v2 : Value} (h : PutN w0 w2 zb o ng N) (h2 : Put w2 w3 rb ro n2 v2) (hB : Box w2 rb m) (hle : w0.heap.size ≤ rb) (hz : zb < w0.heap.size) : PutN w0 w3 zb o ng N := by
  obtain ⟨v, hp, hr⟩ := h
  exact ⟨v, hp.skip h2 hle hz, hr.put hB h2⟩
theorem sgT_sgT (a : Bool) (N : Nat) : sgT (sgT a N) N = sgT a N := by unfold sgT; split <;> rfl
/-- A number that is trimmed again. -/
theorem retrim (zb zo m : Nat) (ng : Bool) (N : Nat) (w : World) (hB : Box w zb m) (ho : zo + 1 < m) (h : NA w zb zo ng N) :
    Calls Try.prog 46 #[.pointer (some ⟨zb, zo, none⟩)] w fun e w' => e = .returned (.pointer (some ⟨zb, zo, none⟩)) ∧ PutN w w' zb zo (sgT ng N) N := by
  obtain ⟨a, c, ds, c0, c1, hrd, hcn, hv, h1, h2, h3⟩ := h.open
  have := trim_any zb zo m _ c a ng ds w hB ho c0 c1 hrd hcn.wd h3
  rw [hv] at this
  exact this
theorem NA.resign {w : World} {b m o : Nat} {ng : Bool} {N : Nat} (h : NA w b o ng N) (hB : Box w b m) (n2 : Bool) (k : Nat) : PutN w ((w.setCell ⟨b, o, none⟩ (.bool n2)).drewN k) b o n2 N := by
  obtain ⟨v, c0, c1, hr⟩ := h
  have h2 := Put.sign (ng := n2) (Below.refl w.heap.size w) hB.lt c1 k
  exact ⟨v, h2, hr.put hB h2⟩
theorem PutN.skipN {w0 w2 w3 : World} {zb o rb ro m : Nat} {ng n2 : Bool} {N N2 : Nat} (h : PutN w0 w2 zb o ng N) (h2 : PutN w2 w3 rb ro n2 N2) (hB : Box w2 rb m) (hle : w0.heap.size ≤ rb) (hz : zb < w0.heap.size) : PutN w0 w3 zb o ng N := by
  obtain ⟨v2, hp, -⟩ := h2
  exact h.skip hp hB hle hz
set_option maxHeartbeats 3200000 in
theorem quorem_any (zb zo m rb xb xo yb yo : Nat) (nx ny : Bool) (X Y : Nat) (w0 w : World) (h0 : Below w0.heap.size w0 w) (hzl : zb < w0.heap.size) (hrl : w0.heap.size ≤ rb) (hB : Box w0 zb m) (ho : zo + 1 < m) (hR : Box w rb 2) (hx : NA w0 xb xo nx X) (hy : NA w0 yb yo ny Y) (hxz : xb ≠ zb) (hyz : yb ≠ zb) (hX : X < 18446744073709551616) (hY : Y < 18446744073709551616) (hY0 : 0 < Y) :
    Calls Try.prog 53 #[.pointer (some ⟨zb, zo, none⟩), .pointer (some ⟨xb, xo, none⟩), .pointer (some ⟨yb, yo, none⟩), .pointer (some ⟨rb, 0, none⟩)] w fun e w' => e = .returned (.tuple #[.pointer (some ⟨zb, zo, none⟩), .pointer (some ⟨rb, 0, none⟩)]) ∧ PutN w0 w' zb zo (sgT (nx != ny) (X / Y)) (X / Y) := by
  have hxl := hx.lt
  have hyl := hy.lt
  have hrw := hR.lt
  have hx1 := hx.below h0
  have hy1 := hy.below h0
  have hB1 := hB.below h0 hzl
  have HC := Lib.hid (cmp_any xb xo yb yo nx ny X Y w hx1 hy1)
  by_cases hlt : X < Y
  · have hcv : cmpN X Y = -1 := by unfold cmpN; rw [if_pos hlt]
    rw [hcv] at HC
    have HE : Hid (X / Y = 0) := Nat.div_eq_of_lt hlt
    have HS1 : Hid (∀ w1, Below w.heap.size w w1 → Calls Try.prog 43 #[.pointer (some ⟨rb, 0, none⟩), .pointer (some ⟨xb, xo, none⟩)] w1 fun e w' => e = .returned (.pointer (some ⟨rb, 0, none⟩)) ∧ PutN w1 w' rb 0 nx X) := fun w1 hb => set_any rb 0 2 xb xo nx X w1 (hR.below hb hrw) (by decide) (hx1.below hb) (by omega) (by omega)
    have HS2 : Hid (∀ w1, Below w0.heap.size w0 w1 → Calls Try.prog 44 #[.pointer (some ⟨zb, zo, none⟩), .int .i64 0] w1 fun e w' => e = .returned (.pointer (some ⟨zb, zo, none⟩)) ∧ PutN w1 w' zb zo false 0) := fun w1 hb => seti_any zb zo m 0 w1 (hB.below hb hzl) ho (by decide)
    have HH0 := Lib.hid h0
    clear hx hy hx1 hy1 hB hB1 hR h0 hlt hcv
    go_enter Try.func53, Try.ntmps53
    go_wp2_with fail
    refine HC.out.mono ?_
    rintro e w1 ⟨rfl, hb1⟩
    have HB1 := Lib.hid hb1
    clear hb1
    go_wp2_with fail
    refine (HS1.out _ HB1.out).mono ?_
    rintro e w2 ⟨rfl, hp1⟩
    have HB2 : Hid (Below w0.heap.size w0 w2) := (HH0.out.trans (HB1.out.mono HH0.out.size)).trans (hp1.below hrl (Nat.le_trans HH0.out.size HB1.out.size))
    clear hp1
    go_wp2_with fail
    refine (HS2.out _ HB2.out).mono ?_
    rintro e w3 ⟨rfl, hp2⟩
    have HP := Lib.hid (PutN.pre HB2.out hzl hp2)
    clear hp2
    go_wp2_with fail
    go_ret2
    exact ⟨rfl, by rw [HE.out]; exact HP.out⟩
  · have hcv : 0 ≤ cmpN X Y := by unfold cmpN; rw [if_neg hlt]; split <;> decide
    obtain ⟨a, c, ds, c0, c1, hrd, hcn, hv, g1, g2, g3⟩ := hx.open
    have hl2 : ds.length ≤ 2 := (len_iff hcn 2).2 (by rw [hv]; exact hX)
    obtain ⟨yv, d0, -⟩ := hy
    generalize ds.length = n at *
    have HAFT : Hid (∀ w1, Below w.heap.size w w1 → w1.cell? ⟨xb, xo, none⟩ = some (.bool nx) ∧ w1.cell? ⟨xb, xo + 1, none⟩ = some (.slice a n c) ∧ w1.cell? ⟨yb, yo, none⟩ = some (.bool ny)) := fun w1 hb => by
      have hb0 := h0.trans (hb.mono h0.size)
      exact ⟨(World.cell?_of_block (hb0.block _ hxl)).trans c0, (World.cell?_of_block (hb0.block _ hxl)).trans c1, (World.cell?_of_block (hb0.block _ hyl)).trans d0⟩
    have HU1 : Hid (∀ w1, Below w.heap.size w w1 → Calls Try.prog 40 #[.pointer (some ⟨xb, xo, none⟩)] w1 fun e w' => e = .returned (.int .u64 (X : Int)) ∧ w' = w1) := fun w1 hb => uint_any xb xo nx X w1 (hx1.below hb) hX
    have HU2 : Hid (∀ w1, Below w.heap.size w w1 → Calls Try.prog 40 #[.pointer (some ⟨yb, yo, none⟩)] w1 fun e w' => e = .returned (.int .u64 (Y : Int)) ∧ w' = w1) := fun w1 hb => uint_any yb yo ny Y w1 (hy1.below hb) hY
    obtain ⟨Q, hQ⟩ : ∃ Q, X / Y = Q := ⟨_, rfl⟩
    obtain ⟨R, hR'⟩ : ∃ R, X % Y = R := ⟨_, rfl⟩
    have hQb : Q < 18446744073709551616 := by rw [← hQ]; exact Nat.lt_of_le_of_lt (Nat.div_le_self _ _) hX
    have hRb : R < 18446744073709551616 := by rw [← hR']; exact Nat.lt_of_le_of_lt (Nat.mod_le _ _) hX
    have e1 : (X : Int) / (Y : Int) = (Q : Int) := by rw [← hQ]; rfl
    have e2 : (X : Int) % (Y : Int) = (R : Int) := by rw [← hR']; rfl
    have e3 : ((Y : Int) == 0) = false := by rw [beq_eq_false_iff_ne]; omega
    have e4 : ((Y : Int) = 0) = False := eq_false (by omega)
    have HS1 : Hid (∀ w1, Below w0.heap.size w0 w1 → Calls Try.prog 41 #[.pointer (some ⟨zb, zo, none⟩), .int .u64 (Q : Int)] w1 fun e w' => e = .returned (.pointer (some ⟨zb, zo, none⟩)) ∧ PutN w1 w' zb zo false Q) := fun w1 hb => setu_any zb zo m Q w1 (hB.below hb hzl) ho hQb
    have HS2 : Hid (∀ w1, Box w1 rb 2 → Calls Try.prog 41 #[.pointer (some ⟨rb, 0, none⟩), .int .u64 (R : Int)] w1 fun e w' => e = .returned (.pointer (some ⟨rb, 0, none⟩)) ∧ PutN w1 w' rb 0 false R) := fun w1 hb => setu_any rb 0 2 R w1 hb (by decide) hRb
    have HH0 := Lib.hid h0
    have HRB := Lib.hid hR
    have HZB := Lib.hid hB
    have HQE := Lib.hid hQ
    have q1 : decide (cmpN X Y < 0) = false := decide_eq_false (by omega)
    have q2 : decide ((n : Int) < 3) = true := decide_eq_true (by omega)
    have q3 : decide (n < 3) = true := decide_eq_true (by omega)
    clear hx hx1 hy1 hB hB1 hR h0 hlt hrd hcn hv g3 hQ hR'
    generalize cmpN X Y = cv at *
    go_enter Try.func53, Try.ntmps53
    go_wp2_with fail
    refine HC.out.mono ?_
    rintro e w1 ⟨rfl, hb1⟩
    have HB1 := Lib.hid hb1
    obtain ⟨p0, p1, p2⟩ := HAFT.out _ hb1
    clear hb1
    go_wp2_with fail
    go_quiet (fail)
    go_wp2_with fail
    refine (HU1.out _ (HB1.out.drewN _)).mono ?_
    rintro e w2 ⟨rfl, rfl⟩
    go_wp2_with fail
    refine (HU2.out _ (HB1.out.drewN _)).mono ?_
    rintro e w2 ⟨rfl, rfl⟩
    have hbd := HB1.out
    have HB2 : Hid (Below w0.heap.size w0 w1) := HH0.out.trans (HB1.out.mono HH0.out.size)
    have HR2 : Hid (Box w1 rb 2) := HRB.out.below HB1.out hrw
    clear hbd HC HU1 HU2
    go_wp2_with fail
    refine (HS1.out _ (HB2.out.drewN _)).mono ?_
    rintro e w3 ⟨rfl, hp1⟩
    have HP1 := Lib.hid (PutN.pre (HB2.out.drewN _) hzl hp1)
    have HR3 := Lib.hid (hp1.box (HR2.out.below ((Below.refl _ _).drewN _) HR2.out.lt))
    clear hp1
    go_wp2_with fail
    refine (HS2.out _ HR3.out).mono ?_
    rintro e w4 ⟨rfl, hp2⟩
    have HZ4 := Lib.hid (HP1.out.skipN hp2 HR3.out hrl hzl)
    have HR4 := Lib.hid (hp2.box HR3.out)
    have HN4 := Lib.hid (hp2.at HR3.out (by decide))
    have HZB4 := Lib.hid (HZ4.out.box HZB.out)
    have HNZ4 := Lib.hid (HZ4.out.at HZB.out ho)
    have hne : rb ≠ zb := by omega
    have f0 := HZB4.out.fr zo
    have f1 := HR4.out.fr 0
    obtain ⟨v1, c2, -⟩ := HNZ4.out
    obtain ⟨v2, c3, -⟩ := HN4.out
    have HP5 : Hid (PutN w4 (w4.setCell ⟨zb, zo, none⟩ (.bool (!(nx == ny)))) zb zo (!(nx == ny)) Q) := HNZ4.out.resign HZB4.out (!(nx == ny)) 0
    have HRB5 := Lib.hid (HP5.out.box HR4.out)
    have HNR5 := Lib.hid (HP5.out.other HZB4.out HN4.out hne)
    have HP6 : Hid (PutN (w4.setCell ⟨zb, zo, none⟩ (.bool (!(nx == ny)))) ((w4.setCell ⟨zb, zo, none⟩ (.bool (!(nx == ny)))).setCell ⟨rb, 0, none⟩ (.bool nx)) rb 0 nx R) := HNR5.out.resign HRB5.out nx 0
    have HZ6 := Lib.hid ((HZ4.out.trans HP5.out).skipN HP6.out HRB5.out hrl hzl)
    have HRB6 := Lib.hid (HP6.out.box HRB5.out)
    have HNR6 := Lib.hid (HP6.out.at HRB5.out (by decide))
    have HT1 := Lib.hid (retrim zb zo m (!(nx == ny)) Q _ (HZ6.out.box HZB.out) ho (HZ6.out.at HZB.out ho))
    have HZB6 := Lib.hid (HZ6.out.box HZB.out)
    have HT2 : Hid (∀ w7, Box w7 rb 2 → NA w7 rb 0 nx R → Calls Try.prog 46 #[.pointer (some ⟨rb, 0, none⟩)] w7 fun e w' => e = .returned (.pointer (some ⟨rb, 0, none⟩)) ∧ PutN w7 w' rb 0 (sgT nx R) R) := fun w7 h1 h2 => retrim rb 0 2 nx R w7 h1 (by decide) h2
    clear hp2 HP1 HZ4 HNZ4 HP5 HP6 HS1 HS2
    go_wp2_with fail
    refine HT1.out.mono ?_
    rintro e w7 ⟨rfl, hp7⟩
    have HZ7 := Lib.hid (HZ6.out.trans hp7)
    have HR7 := Lib.hid (hp7.box HRB6.out)
    have HN7 := Lib.hid (hp7.other HZB6.out HNR6.out hne)
    clear hp7 HT1 HZ6
    go_wp2_with fail
    refine (HT2.out _ HR7.out HN7.out).mono ?_
    rintro e w8 ⟨rfl, hp8⟩
    have HZ8 := Lib.hid (HZ7.out.skipN hp8 HR7.out hrl hzl)
    clear hp8
    go_wp2_with fail
    go_ret2
    exact ⟨rfl, by rw [HQE.out]; exact HZ8.out⟩
theorem quo_any (zb zo m xb xo yb yo : Nat) (nx ny : Bool) (X Y : Nat) (w : World) (hB : Box w zb m) (ho : zo + 1 < m) (hx : NA w xb xo nx X) (hy : NA w yb yo ny Y) (hxz : xb ≠ zb) (hyz : yb ≠ zb) (hX : X < 18446744073709551616) (hY : Y < 18446744073709551616) (hY0 : 0 < Y) :
    Calls Try.prog 47 #[.pointer (some ⟨zb, zo, none⟩), .pointer (some ⟨xb, xo, none⟩), .pointer (some ⟨yb, yo, none⟩)] w fun e w' => e = .returned (.pointer (some ⟨zb, zo, none⟩)) ∧ PutN w w' zb zo (sgT (nx != ny) (X / Y)) (X / Y) := by
  have HQ := Lib.hid (quorem_any zb zo m w.heap.size xb xo yb yo nx ny X Y w (w.alloc (.cells #[.bool false, .slice none 0 0] 46)) ((Below.refl _ _).alloc (Nat.le_refl _) _) hB.lt (Nat.le_refl _) hB ho (Box.new w 46) hx hy hxz hyz hX hY hY0)
  clear hB hx hy
  go_enter Try.func47, Try.ntmps47
  go_wp2_with fail
  refine HQ.out.mono ?_
  rintro e w1 ⟨rfl, h1⟩
  have H1 := Lib.hid h1
  clear h1
  go_wp2_with fail
  go_ret
  exact ⟨rfl, H1.out⟩
end Go.Proofs.Ytidnmdfpnmahpaa.Big
