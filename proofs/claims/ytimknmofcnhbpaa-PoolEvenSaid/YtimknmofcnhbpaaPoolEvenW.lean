/- The walk of PoolEven. No condition. -/
import Derived.Test.YtimknmofcnhbpaaEvenL
set_option linter.unusedSimpArgs false
set_option linter.unusedVariables false
namespace Go.Proofs.Ytimknmofcnhbpaa.poolEven
open Go.RowKit Go.Maps Go.Proofs.Ytimknmofcnhbpaa
/-- What lies there after j rounds. -/
def Inv (r n : Nat) (w0 : World) (mb Bc : Nat) (j : Nat) (w : World) : Prop :=
  MC w mb j (ALf r n j) ∧ w.heap[Bc]? = some (.cells #[.map (some mb)] 23 (0, 0)) ∧ Below w0.heap.size w0 w
theorem rows_even (r n : Nat) (w0 w : World) (mb Bc : Nat) (h1 : 1 ≤ r) (h2 : r ≤ n) (h3 : n ≤ 6) (hm : MC w mb 0 []) (hc : w.heap[Bc]? = some (.cells #[.map (some mb)] 23 (0, 0))) (hb : Below w0.heap.size w0 w) (hmb : w0.heap.size ≤ mb) (hne : mb ≠ Bc) :
    Calls Try.prog 8 #[.int .i64 r, .int .i64 n, .func (.func 9) #[] #[.pointer (some ⟨Bc, 0, none⟩)]] w fun e w' => e = .returned (.bool true) ∧ Inv r n w0 mb Bc (fac n) w' ∧ w.heap.size ≤ w'.heap.size := by
  have hbc : Bc < w.heap.size := (Array.getElem?_eq_some_iff.1 hc).1
  refine rows_ok 9 (.inl rfl) #[.pointer (some ⟨Bc, 0, none⟩)] (Inv r n w0 mb Bc) r n w h1 h2 h3 ?_ ?_ ⟨hm, hc, hb⟩
  · rintro j w1 w2 ⟨i1, i2, i3⟩ hbe
    refine ⟨i1.kept hbe hm.lt, (hbe.block _ hbc).trans i2, i3.trans (hbe.mono hb.size)⟩
  · rintro j w1 hv hj ⟨i1, i2, i3⟩ hs hr
    have hg := good_all n h3 r h2 h1 j hj
    unfold goodP at hg
    simp only [Bool.and_eq_true, List.all_eq_true, decide_eq_true_eq, beq_iff_eq] at hg
    obtain ⟨⟨g1, g2⟩, g3⟩ := hg
    rw [← g1] at hr
    have hf := fac_le h3
    refine (look_ok r n hv (poolNat r n j) w1 Bc mb j (ALf r n j) hr g2 g3 i2 i1 (by omega) (fun x => by have := ALf_le r n x j; omega)).mono ?_
    rintro e w2 ⟨rfl, m2, gr⟩
    have hml := i1.lt
    refine ⟨rfl, ⟨m2, (gr.block Bc (by omega) (by simpa using Ne.symm hne)).trans i2, i3.grown gr (by have := hb.size; omega) (fun k hk => by cases hk; exact hmb)⟩, ⟨gr.os, gr.tape, gr.output, gr.size, fun i hi1 hi2 => gr.block i hi2 ?_⟩⟩
    have := hm.lt
    simp; omega
set_option maxHeartbeats 1600000 in
set_option maxRecDepth 20000 in
theorem run (r n : Nat) (w : World) (h1 : 1 ≤ r) (h2 : r ≤ n) (h3 : n ≤ 6) :
    Calls Try.prog 3 #[.int .i64 r, .int .i64 n] w fun e w' => e = .returned (.bool true) ∧ Below w.heap.size w w' := by
  have f1 : decide ((r : Int) < 1) = false := decide_eq_false (by omega)
  have f2 : decide ((n : Int) < (r : Int)) = false := decide_eq_false (by omega)
  have f2' : decide (n < r) = false := decide_eq_false (by omega)
  have f3 : decide (6 < (n : Int)) = false := decide_eq_false (by omega)
  have hmm := @run_makeMap Try.prog
  go_enter Try.func3, Try.ntmps3
  go_wp2_with fail
  refine (alive_any _).mono ?_
  rintro e w1 ⟨rfl, hb⟩
  have H1 := Lib.hid hb
  clear hb
  go_wp2_with fail
  have HM : MC ((w1.alloc (.map #[] 0)).alloc (.cells #[.map (some w1.heap.size)] 23)) w1.heap.size 0 [] := (MC.made w1).kept ((Below.refl _ _).alloc (Nat.le_refl _) _) (MC.made w1).lt
  have HC : ((w1.alloc (.map #[] 0)).alloc (.cells #[.map (some w1.heap.size)] 23)).heap[w1.heap.size + 1]? = some (.cells #[.map (some w1.heap.size)] 23 (0, 0)) := by
    have := heap_alloc_new (w1.alloc (.map #[] 0)) (.cells #[.map (some w1.heap.size)] 23)
    simpa using this
  have hs1 := H1.out.size
  refine (rows_even r n w _ w1.heap.size (w1.heap.size + 1) h1 h2 h3 HM HC ((H1.out.alloc hs1 _).alloc (by simp; omega) _) hs1 (by omega)).mono ?_
  rintro e w2 ⟨rfl, ⟨m2, c2, b2⟩, -⟩
  have HCK := Lib.hid (chk_all n h3 r h2 h1)
  obtain ⟨D, hD1, hD2, hD3, hD4, hD5⟩ := m2
  have HD1 := Lib.hid hD1
  have HD3 := Lib.hid hD3
  have HD4 := Lib.hid hD4
  have HD5 := Lib.hid hD5
  have HB2 := Lib.hid b2
  have HC2 := Lib.hid c2
  have k2 := cell_of_one c2
  have HBl : Hid (w1.heap.size + 1 < w2.heap.size) := lt_of_block c2
  have HS1 := Lib.hid hs1
  have HWS : Hid (∀ k, k ≤ n → wantF n k ≤ 20) := want_le n h3
  have HWN : Hid (∀ k, wantF n (k + 1) = wantF n k * (n - k) / (k + 1)) := fun k => rfl
  have HFS : Hid (∀ k, fac (k + 1) = fac k * (k + 1)) := fun k => rfl
  have HFL : Hid (∀ k, k ≤ 6 → fac k ≤ 720) := fun k h => fac_le h
  obtain ⟨N, hN⟩ : ∃ N, fac n = N := ⟨_, rfl⟩
  have HN := Lib.hid hN
  rw [hN] at HD1
  have HN720 := HFL.out n h3
  rw [hN] at HN720
  clear HM HC hD1 hD2 hD3 hD4 hD5 b2 c2 hs1 hN
  go_wp2_with fail
  go_loop [9, 8] (fun kv av => ∃ k a : Nat, 1 ≤ k ∧ k ≤ n ∧ kv = .int .i64 ((k : Int) + 1) ∧ av = .int .i64 a ∧ a ≤ 720 ∧ Hid (a = fac k)) (fun kv _ => n + 1 - (intOf kv).toNat)
  case atStart => exact ⟨1, 1, by omega, by omega, rfl, rfl, by decide, rfl⟩
  case round =>
    obtain ⟨k, a, hk1, hk2, rfl, rfl, ha, HA⟩ := hrel
    by_cases hlt : k < n
    · have q1 : decide ((k : Int) + 1 ≤ (n : Int)) = true := decide_eq_true (by omega)
      have hfk := HFS.out k
      rw [← HA.out] at hfk
      have hf2 := HFL.out (k + 1) (by omega)
      rw [hfk] at hf2
      have HFK := Lib.hid hfk
      obtain ⟨p, hp⟩ : ∃ p : Nat, a * (k + 1) = p := ⟨_, rfl⟩
      rw [hp] at hf2 HFK
      have hpp : (a : Int) * ((k : Int) + 1) = (p : Int) := by rw [← hp]; simp
      clear hfk hp
      go_wp2_with fail
      go_round
      case rel => exact ⟨k + 1, p, by omega, by omega, by go_num, rfl, hf2, HFK.out.symm⟩
      case measure => simp [intOf]; omega
    · obtain rfl : k = n := by omega
      have q1 : decide ((k : Int) + 1 ≤ (k : Int)) = false := decide_eq_false (by omega)
      have HAN : Hid (a = N) := HA.out.trans HN.out
      go_wp2_with fail
      go_loop [40, 7] (fun iv xv => ∃ i x : Nat, i ≤ r ∧ iv = .int .i64 i ∧ xv = .int .i64 x ∧ x ≤ 20 ∧ Hid (x = wantF k i)) (fun iv _ => r - (intOf iv).toNat)
      case atStart => exact ⟨0, 1, by omega, rfl, rfl, by decide, rfl⟩
      case round =>
        obtain ⟨i, x, hi, rfl, rfl, hx, HX⟩ := hrel
        by_cases hil : i < r
        · have hw := HWN.out i
          rw [← HX.out] at hw
          have hw2 := HWS.out (i + 1) (by omega)
          rw [hw] at hw2
          obtain ⟨y, hy⟩ : ∃ y : Nat, x * (k - i) / (i + 1) = y := ⟨_, rfl⟩
          rw [hy] at hw hw2
          have HW := Lib.hid hw
          obtain ⟨p, hp⟩ : ∃ p : Nat, x * (k - i) = p := ⟨_, rfl⟩
          have hp720 : p ≤ 120 := by rw [← hp]; exact Nat.le_trans (Nat.mul_le_mul hx (show k - i ≤ 6 by omega)) (by decide)
          have hpp : (x : Int) * ((k : Int) - (i : Int)) = (p : Int) := by rw [← hp, ← Int.natCast_sub (by omega)]; simp
          rw [hp] at hy
          have hyy : (p : Int) / ((i : Int) + 1) = (y : Int) := by rw [← hy]; simp
          have hii : (i : Int) < (r : Int) := by omega
          clear hw hp hy
          go_wp2_with fail
          go_round
          case rel => exact ⟨i + 1, y, by omega, by go_num, by first | rfl | go_num, hw2, HW.out.symm⟩
          case measure => simp [intOf]; omega
        · obtain rfl : i = r := by omega
          go_wp2_with (at_range; go_must (refine wpList_range_own _ rfl _ 23 rfl 3 3 key3 Try.underlying23 _ w1.heap.size N D rfl HD1.out ?_))
          intro w3 hrg hg3 hs3
          have HRG := Lib.hid hrg
          have HB3 := Lib.hid (HB2.out.grown hg3 HB2.out.size (fun k hk => by cases hk))
          have hr0 : Hid (w.heap.size ≤ w2.heap.size) := HB2.out.size
          have c3 : w3.cell? ⟨w1.heap.size + 1, 0, none⟩ = some (.map (some w1.heap.size)) := (World.cell?_of_block (hg3.block _ HBl.out (by simp))).trans k2
          have HC3 : Hid (w3.heap[w1.heap.size + 1]? = some (.cells #[.map (some w1.heap.size)] 23 (0, 0))) := (hg3.block _ HBl.out (by simp)).trans HC2.out
          obtain ⟨R, hR⟩ : ∃ R, w2.heap.size = R := ⟨_, rfl⟩
          rw [hR] at HRG ⊢
          have HRl : Hid (w1.heap.size + 1 < R) := by have := HBl.out; show _ < _; omega
          have HRw : Hid (w.heap.size ≤ R) := by have := hr0.out; show _ ≤ _; omega
          clear hrg hg3 hs3 k2
          go_wp2_with fail
          go_loopw [12] (fun _ wr => ∃ left cnt, Hid (wr.ranges Try.prog 3 (plainElem Try.prog 3) w1.heap.size R N D left cnt) ∧ Hid (Below w.heap.size w wr) ∧ Hid (wr.heap[w1.heap.size + 1]? = some (.cells #[.map (some w1.heap.size)] 23 (0, 0)))) (fun _ wr => wr.rangeLeft w1.heap.size R)
          case atStart => exact ⟨_, _, HRG.out, HB3.out, HC3.out⟩
          case round =>
            clear HRG HB3 HC3 c3
            obtain ⟨left, cnt, HRG, HBE, HC⟩ := hrel
            have c3 := cell_of_one HC.out
            go_wp2_with (at_next; go_must (refine wpList_next_ranges_ii _ rfl _ rfl 3 3 .i64 .i64 key3 Try.underlying3 Try.underlying3 w1.heap.size R N _ _ _ rfl HRG.out ?_ ?_))
            · intro hc0 hl0
              have HOW := Lib.hid HRG.out.owns
              have q9 : ((Maps.size D : Nat) : Int) = (x : Int) := by
                rw [HD5.out, HN.out]
                have := HCK.out
                unfold chkE at this
                simp only [Bool.and_eq_true, decide_eq_true_eq] at this
                rw [HN.out] at this
                rw [this.2, HX.out]
              have Q9 := Lib.hid q9
              clear q9
              have hln := HOW.out.len Try.underlying23 3
              rw [Q9.out] at hln
              go_wp2_with fail
              go_ret
              exact ⟨by simp, HBE.out⟩
            · intro z c w4 cnt4 hwx hwc hlx hat hrg4 hlt4 hg4 hs4 hen
              have hcl : c = lk (ALf i k (fac k)) z := by
                have := HD3.out z
                rw [hat] at this
                simpa using this
              have hhk : hk (ALf i k (fac k)) z = true := by
                rw [← HD4.out]
                exact has_true_of_atKey hat
              have hck : lk (ALf i k (fac k)) z * wantF k i = fac k := by
                have := HCK.out
                unfold chkE at this
                simp only [Bool.and_eq_true] at this
                have := lk_all (P := fun c => c * wantF k i == fac k) _ z this.1 hhk
                simpa using this
              rw [← HX.out] at hck
              replace hck := hck.trans HN.out
              have hle : lk (ALf i k (fac k)) z ≤ 720 := Nat.le_trans (ALf_le i k z (fac k)) (HFL.out k h3)
              subst hcl
              generalize lk (ALf i k (fac k)) z = cc at *
              have hpr : (cc : Int) * (x : Int) = (a : Int) := by rw [HAN.out, ← hck]; simp
              have HR4 := Lib.hid hrg4
              have HB4 := Lib.hid (HBE.out.grown hg4 HBE.out.size (fun k hk => by cases hk; exact HRw.out))
              have HC4 : Hid (w4.heap[w1.heap.size + 1]? = some (.cells #[.map (some w1.heap.size)] 23 (0, 0))) := (hg4.block _ (lt_of_block HC.out) (by have := HRl.out; simp; omega)).trans HC.out
              have HLT : Hid (cnt4 < cnt) := hlt4
              clear hlx hat hrg4 hlt4 hg4 hs4 hck hhk c3
              go_wp2_with fail
              go_roundw
              case rel => exact ⟨_, _, HR4.out, HB4.out, HC4.out⟩
              case measure => rw [HR4.out.left_eq, HRG.out.left_eq]; exact HLT.out
theorem walk (a0 a1 : Int) (w : World) (w0 : (Lit.int .i64 a0).wf = true) (w1 : (Lit.int .i64 a1).wf = true) :
    Calls Try.prog 3 #[.int .i64 a0, .int .i64 a1] w fun e w' => e = .returned (.bool true) ∧ Below w.heap.size w w' := by
  by_cases k1 : 1 ≤ a0 ∧ a0 ≤ a1 ∧ a1 ≤ 6
  · obtain ⟨r, rfl⟩ : ∃ r : Nat, a0 = r := ⟨a0.toNat, by omega⟩
    obtain ⟨n, rfl⟩ : ∃ r : Nat, a1 = r := ⟨a1.toNat, by omega⟩
    exact run r n w (by omega) (by omega) (by omega)
  · have hx : decide (a0 < 1) = true ∨ (decide (a0 < 1) = false ∧ decide (a1 < a0) = true) ∨ (decide (a0 < 1) = false ∧ decide (a1 < a0) = false ∧ decide (6 < a1) = true) := by
      by_cases c1 : a0 < 1
      · exact .inl (decide_eq_true c1)
      · by_cases c2 : a1 < a0
        · exact .inr (.inl ⟨decide_eq_false c1, decide_eq_true c2⟩)
        · exact .inr (.inr ⟨decide_eq_false c1, decide_eq_false c2, decide_eq_true (by omega)⟩)
    clear k1 w0 w1
    rcases hx with f1 | ⟨f1, f2⟩ | ⟨f1, f2, f3⟩
    all_goals
      go_enter Try.func3, Try.ntmps3
      go_wp2_with fail
      refine (alive_any _).mono ?_
      rintro e w1 ⟨rfl, hb⟩
      have H1 := Lib.hid hb
      clear hb
      go_wp2_with fail
      go_ret
      exact ⟨rfl, H1.out⟩
end Go.Proofs.Ytimknmofcnhbpaa.poolEven
