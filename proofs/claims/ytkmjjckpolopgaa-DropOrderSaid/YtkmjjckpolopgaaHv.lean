/- drop.Heavy: what it answers. Condition: a row within the reach. -/
import Derived.Test.YtkmjjckpolopgaaLev
import Derived.Test.YtkmjjckpolopgaaBl
import Derived.Test.YtkmjjckpolopgaaClone
set_option linter.unusedSimpArgs false
set_option linter.unusedVariables false
namespace Go.Proofs.Ytkmjjckpolopgaa
open Go.RowKit
theorem Try.info4 : (Try.prog.info? 4).map (fun i => (i.zero, i.size, i.bytes)) = some (some (.bool false), 1, 1) := by kernel_rfl
def isH (N D x : Int) : Bool := decide (D = 0) || decide (N ≤ x * D)
def hvy (N D : Int) (l : List Int) : List Bool := l.map (isH N D)
theorem hvy_len (N D : Int) (l : List Int) : (hvy N D l).length = l.length := by simp [hvy]
theorem hvy_get (N D : Int) (l : List Int) (k : Nat) (h : k < l.length) : (hvy N D l).getD k false = isH N D (l.getD k 0) := by
  simp [hvy, List.getD_eq_getElem?_getD, h]
theorem hvy_take (N D : Int) (l : List Int) (k : Nat) (h : k < l.length) : (hvy N D (l.take k)).map Value.bool ++ [Value.bool (isH N D (l.getD k 0))] = (hvy N D (l.take (k + 1))).map Value.bool := by
  rw [take_s l k h]; simp [hvy]
theorem kept2 {w1 w2 : World} {n s : Int} (hw : w1.alloc (.cells #[.int .i64 n, .int .i64 s] 25) = w2) : ∀ w', Below w2.heap.size w2 w' → w'.cell? ⟨w1.heap.size, 0, none⟩ = some (.int .i64 n) ∧ w'.cell? ⟨w1.heap.size, 1, none⟩ = some (.int .i64 s) := fun w' hb => by
  subst hw
  have h1 := (hb.block w1.heap.size (by simp)).trans (heap_alloc_new w1 _)
  refine ⟨?_, ?_⟩ <;> (rw [cell_of_row _ _ _ _ 25 (0, 0) h1]; rfl)
set_option maxHeartbeats 800000 in
theorem hv_bad (v : Value) (zs : List Int) (keep : Int) (w : World) (h : Rd w v zs) (hno : ¬ OkD zs keep) :
    Calls Try.prog 10 #[v, .int .i64 keep] w fun e w' => e = .returned (.tuple #[.slice none 0 0, .int .i64 2]) ∧ Below w.heap.size w w' := by
  have HL := Lib.hid (lev_bad v zs keep w h hno)
  obtain ⟨a, cap, rfl, -⟩ := h.open
  unfold fr at HL
  clear h hno
  go_enter Try.func10, Try.ntmps10
  go_wp2_with fail
  refine HL.out.mono ?_
  rintro e w1 ⟨rfl, hb1⟩
  have HB1 := Lib.hid hb1
  clear hb1 HL
  go_wp2_with fail
  go_ret2
  exact ⟨rfl, HB1.out.alloc HB1.out.size _⟩
set_option maxHeartbeats 1600000 in
theorem hv_core (v : Value) (zs : List Int) (keep N D : Int) (w : World) (h : Rd w v zs) (hl : zs.length ≤ 400) (hw : Wts zs) (hD : 0 ≤ D ∧ D ≤ 400) (hN : 0 ≤ N ∧ N ≤ 419430400)
    (HL : Hid (Calls Try.prog 9 #[v, .int .i64 keep] w fun e w' => e = .returned (.tuple #[fr N D, .int .i64 0]) ∧ Below w.heap.size w w')) :
    Calls Try.prog 10 #[v, .int .i64 keep] w fun e w' => ∃ v', e = .returned (.tuple #[v', .int .i64 0]) ∧ w'.ownsRow w.heap.size 4 1 v' zs.length ((hvy N D zs).map Value.bool) ∧ Below w.heap.size w w' := by
  obtain ⟨i0, hi0, hz0, hz1, hz2⟩ := info_parts Try.info4
  obtain ⟨a, cap, rfl, -, -, hop⟩ := h.open
  obtain ⟨n, hn⟩ : ∃ n, zs.length = n := ⟨_, rfl⟩
  rw [hn] at hop hl HL ⊢
  have HN := Lib.hid hn
  have HW := Lib.hid hw
  have HOP := Lib.hid hop
  unfold fr at HL
  clear h hop hn hw
  go_enter Try.func10, Try.ntmps10
  go_wp2_with fail
  refine HL.out.mono ?_
  rintro e w1 ⟨rfl, hb1⟩
  obtain ⟨w2, hw2⟩ : ∃ w2, w1.alloc (.cells #[.int .i64 N, .int .i64 D] 25) = w2 := ⟨_, rfl⟩
  have HB2 : Hid (Below w.heap.size w w2) := by show Below _ _ _; rw [← hw2]; exact hb1.alloc hb1.size _
  have HK := Lib.hid (kept2 hw2)
  have HOP2 : Hid (∀ k, k < n → ∃ b off, a = some ⟨b, off, none⟩ ∧ ∀ X, Below w2.heap.size w2 X → X.cell? ⟨b, off + k, none⟩ = some (.int .i64 (zs.getD k 0))) := fun k hk => by
    obtain ⟨b, off, e, hb, hc⟩ := HOP.out k hk
    exact ⟨b, off, e, fun X hX => (World.cell?_of_block (((HB2.out.trans (hX.mono HB2.out.size)).block b hb))).trans (hc k hk)⟩
  have HW2 := Lib.hid hw2
  clear hb1 HL hw2 HOP
  go_wp2_with fail
  rw [HW2.out]
  obtain ⟨B1, hB1⟩ : ∃ B, w1.heap.size = B := ⟨_, rfl⟩
  rw [hB1] at HK ⊢
  clear HW2 hB1
  go_wp2_with fail
  go_loopw [22, 8] (fun iv ov wr => ∃ k : Nat, k ≤ n ∧ iv = .int .i64 k ∧ Hid (Below w2.heap.size w2 wr) ∧ Hid (wr.ownsRow w2.heap.size 4 1 ov k ((hvy N D (zs.take k)).map Value.bool))) (fun iv _ _ => n - (intOf iv).toNat)
  case atStart => exact ⟨0, Nat.zero_le _, rfl, Below.refl _ _, World.ownsRow_nil _ _ _ _⟩
  case round =>
    obtain ⟨k, hk, rfl, HB, HO⟩ := hrel
    by_cases hkn : k < n
    · obtain ⟨b, off, rfl, hc⟩ := HOP2.out k hkn
      have c1 := hc wr HB.out
      obtain ⟨c2, c3⟩ := HK.out wr HB.out
      have hx := HW.out _ (getD_memI zs k (by rw [HN.out]; exact hkn))
      have HT := Lib.hid (hvy_take N D zs k (by rw [HN.out]; exact hkn))
      have HSZ : Hid (w2.heap.size ≤ wr.heap.size) := HB.out.size
      clear hc
      generalize zs.getD k 0 = x at *
      obtain ⟨bt, hbt⟩ : ∃ bt, isH N D x = bt := ⟨_, rfl⟩
      rw [hbt] at HT
      have HK8 : Hid (k + 1 ≤ 17592186044416) := by show _ ≤ _; omega
      by_cases hd0 : D = 0
      · have t1 : (D == 0) = true := by rw [hd0]; rfl
        have hbt' : true = bt := by rw [← hbt]; simp [isH, hd0]
        subst hbt'
        clear hbt hx hd0
        go_wp2_with (at_builtin; go_must (refine push rfl _ _ 29 rfl w2.heap.size 4 i0 (.bool false) 1 Try.underlying29 hi0 hz0 hz1 hz2 rfl _ k ((hvy N D (zs.take k)).map Value.bool) rfl HO.out (.bool true) _ rfl rfl rfl (by decide) HK8.out HSZ.out ?_))
        intro v' w' hown hgr
        have HB' := Lib.hid (grown_below hgr HO.out HB.out (Nat.le_refl _) HSZ.out)
        rw [HT.out] at hown
        have HOn := Lib.hid hown
        clear hown hgr
        go_wp2_with fail
        exact ⟨⟨k + 1, by omega, by go_num, HB'.out, HOn.out⟩, by simp [intOf]; omega⟩
      · have t1 : (D == 0) = false := by rw [beq_eq_false_iff_ne]; exact hd0
        obtain ⟨xd, hxd⟩ : ∃ z, x * D = z := ⟨_, rfl⟩
        have hxb : 0 ≤ x * D ∧ x * D ≤ 1048576 * 400 := ⟨Int.mul_nonneg (by omega) (by omega), Int.mul_le_mul (by omega) (by omega) (by omega) (by omega)⟩
        rw [hxd] at hxb
        have y2 : IntKind.i64.wrap (x * D) = xd := by rw [IntKind.wrap_i64, hxd]; omega
        have t2 : decide (N ≤ xd) = bt := by rw [← hbt, isH, hxd, decide_eq_false hd0, Bool.false_or]
        clear hbt hx hd0 hxd hxb
        go_wp2_with (at_builtin; go_must (refine push rfl _ _ 29 rfl w2.heap.size 4 i0 (.bool false) 1 Try.underlying29 hi0 hz0 hz1 hz2 rfl _ k ((hvy N D (zs.take k)).map Value.bool) rfl HO.out (.bool bt) _ rfl rfl rfl (by decide) HK8.out HSZ.out ?_))
        intro v' w' hown hgr
        have HB' := Lib.hid (grown_below hgr HO.out HB.out (Nat.le_refl _) HSZ.out)
        rw [HT.out] at hown
        have HOn := Lib.hid hown
        clear hown hgr
        go_wp2_with fail
        exact ⟨⟨k + 1, by omega, by go_num, HB'.out, HOn.out⟩, by simp [intOf]; omega⟩
    · obtain rfl : k = n := by omega
      rw [List.take_of_length_le (by rw [HN.out]; exact Nat.le_refl _)] at HO
      have HO' := Lib.hid (own_base HO.out HB2.out.size)
      have HB' := Lib.hid (HB2.out.trans (HB.out.mono HB2.out.size))
      clear HO HB
      go_wp2_with fail
      go_ret2
      exact ⟨_, rfl, HO'.out, HB'.out⟩
theorem hv_good (v : Value) (zs : List Int) (keep : Int) (w : World) (h : Rd w v zs) (hok : OkD zs keep) :
    Calls Try.prog 10 #[v, .int .i64 keep] w fun e w' => ∃ v', e = .returned (.tuple #[v', .int .i64 0]) ∧ w'.ownsRow w.heap.size 4 1 v' zs.length ((hvy (lev zs keep).1 (lev zs keep).2 zs).map Value.bool) ∧ Below w.heap.size w w' := by
  by_cases hk : (zs.length : Int) ≤ keep
  · have e := lev_few hk
    rw [e]
    exact hv_core v zs keep 0 0 w h hok.1 hok.2.2.2 (by decide) (by decide) (lev_few_any v zs keep w h hok hk)
  · obtain ⟨a, b, c, d, -⟩ := lev_law hok (by omega)
    exact hv_core v zs keep _ _ w h hok.1 hok.2.2.2 ⟨by omega, by have := hok.2.2.1; omega⟩ ⟨by omega, by omega⟩ (lev_many_any v zs keep w h hok (by omega))
end Go.Proofs.Ytkmjjckpolopgaa
