/- The walk of BottomLess. No condition beyond rows within the reach. -/
import Derived.Test.YticodfdonpookaaAl
set_option linter.unusedSimpArgs false
set_option linter.unusedVariables false
set_option maxRecDepth 20000
namespace Go.Proofs.Yticodfdonpookaa
open Go.RowKit
theorem us_of {w : World} {a : Option Addr} {len cap : Nat} {z : List Int} (h : IsRow .u64 w a len cap z) : ∃ xs : List (BitVec 64), us xs = z.take len := by
  obtain ⟨-, hb⟩ := IsRow.rd h
  refine ⟨(z.take len).map fun n => BitVec.ofNat 64 n.toNat, ?_⟩
  unfold us
  rw [List.map_map]
  have : ∀ n ∈ z.take len, (U ∘ fun n : Int => BitVec.ofNat 64 n.toNat) n = n := fun n hn => by
    have := hb n hn
    simp only [Function.comp, U, BitVec.toNat_ofNat]
    rw [Nat.mod_eq_of_lt (by omega)]
    omega
  rw [List.map_congr_left this, List.map_id']
theorem all_tot (s : BitVec 64) (room : Int) (v : Value) (xs : List (BitVec 64)) (w : World) (h : Rd w v (us xs)) :
    Calls Try.prog 9 #[.int .u64 (U s), .int .i64 room, v] w fun e w' => (∃ (er : Int) (a : Option Addr) (n c : Nat), ((1 ≤ room ∧ room ≤ 400) → er = 0 ∧ (a = none → n = 0 ∧ c = 0) ∧ (sk s room.toNat xs).length = n ∧ Rd w' (.slice a n c) (us (sk s room.toNat xs))) ∧ (¬ (1 ≤ room ∧ room ≤ 400) → er = 2 ∧ a = none ∧ n = 0 ∧ c = 0) ∧ e = .returned (.tuple #[.slice a n c, .int .i64 er])) ∧ Below w.heap.size w w' := by
  by_cases hr : 1 ≤ room ∧ room ≤ 400
  · refine (all_any s room v xs w h hr).mono ?_
    rintro e w' ⟨⟨v', rfl, a, n, c, rfl, h1, h2, h3⟩, hb⟩
    exact ⟨⟨0, a, n, c, fun _ => ⟨rfl, h1, h2, h3⟩, fun g => absurd hr g, rfl⟩, hb⟩
  · refine (all_bad s room v xs w h hr).mono ?_
    rintro e w' ⟨rfl, rfl⟩
    exact ⟨⟨2, none, 0, 0, fun g => absurd g hr, fun _ => ⟨rfl, rfl, rfl, rfl⟩, rfl⟩, Below.refl _ _⟩
end Go.Proofs.Yticodfdonpookaa
namespace Go.Proofs.Yticodfdonpookaa.bottomLess
open Go.RowKit Go.Proofs.Yticodfdonpookaa
set_option maxHeartbeats 1600000 in
theorem run (s : BitVec 64) (room less : Int) (v : Value) (xs : List (BitVec 64)) (w : World) (h : Rd w v (us xs)) :
    Calls Try.prog 4 #[.int .u64 (U s), .int .i64 room, .int .i64 less, v] w fun e w' => e = .returned (.bool true) ∧ Below w.heap.size w w' := by
  have HL := Lib.hid (fun w1 hb1 r => all_tot s r v xs w1 (h.below (w' := w1) hb1 (Nat.le_refl _)))
  obtain ⟨a, cap, rfl, -⟩ := h.open
  obtain ⟨n, hn⟩ : ∃ n, (us xs).length = n := ⟨_, rfl⟩
  rw [hn] at HL ⊢
  generalize hus : U s = ss at *
  clear h hn hus
  go_enter Try.func4, Try.ntmps4
  go_wp2_with fail
  refine (alive_any w).mono ?_
  rintro e w1 ⟨rfl, hb1⟩
  have HB1 := Lib.hid hb1
  have HC := Lib.hid (HL.out w1 hb1 room)
  clear hb1
  go_wp2_with fail
  refine HC.out.mono ?_
  rintro e w2 ⟨⟨er1, a1, n1, c1, hg1, hn1, rfl⟩, hb2⟩
  have hb2' := HB1.out.trans (hb2.mono HB1.out.size)
  have HB2 := Lib.hid hb2'
  have HG1 := Lib.hid hg1
  have HN1 := Lib.hid hn1
  have HC := Lib.hid (HL.out w2 hb2' less)
  clear hb2 hb2' hg1 hn1
  go_wp2_with fail
  refine HC.out.mono ?_
  rintro e w3 ⟨⟨er2, a2, n2, c2, hg2, hn2, rfl⟩, hb3⟩
  have HB3 := Lib.hid (HB2.out.trans (hb3.mono HB2.out.size))
  have HG2 := Lib.hid hg2
  have HN2 := Lib.hid hn2
  have HX3 := Lib.hid hb3
  clear hb3 hg2 hn2 HC HL
  by_cases hr1 : 1 ≤ room ∧ room ≤ 400
  · obtain ⟨rfl, -, l1, r1⟩ := HG1.out hr1
    by_cases hr2 : 1 ≤ less ∧ less ≤ 400
    · obtain ⟨rfl, -, l2, r2⟩ := HG2.out hr2
      by_cases hle : less ≤ room
      · have t1 : decide (room < less) = false := decide_eq_false (by omega)
        have hsk := sk_less s (show less.toNat ≤ room.toNat by omega) xs
        have hm : (n2 : Int) = min less (n1 : Int) := by
          rw [← l2, ← l1, ← hsk, List.length_take]; omega
        have emin : ∀ w : World, (Builtin.min_ #[3, 3] 3 #[.int .i64 less, .int .i64 (n1 : Int)]).run Try.prog w = .ok (.int .i64 (n2 : Int)) w := fun w => by rw [min2_run, hm]
        have hn21 : n2 ≤ n1 := by omega
        have r1' := r1.below HX3.out (Nat.le_refl _)
        have hc1 : n1 ≤ c1 ∧ c1 ≤ 9223372036854775807 := by
          obtain ⟨_, _, he, g1, g2, -⟩ := r1.open
          injection he with _ q1 q2
          omega
        have HE : Hid (Calls Try.prog 12 #[.slice a1 n2 c1, .slice a2 n2 c2] w3 fun e w' => e = .returned (.bool true) ∧ Below w3.heap.size w3 w') := by
          refine (equal_any _ _ _ _ w3 (r1'.take hn21) r2).mono ?_
          rintro e w' ⟨rfl, hb⟩
          refine ⟨?_, hb⟩
          have : (us (sk s room.toNat xs)).take n2 = us (sk s less.toNat xs) := by
            unfold us
            rw [← List.map_take, ← l2, ← hsk]
            refine congrArg (List.map U) ?_
            rw [List.length_take, List.take_eq_take_iff]
            omega
          rw [decide_eq_true this]
        obtain ⟨hc3, hc4⟩ := hc1
        have hc5 : n2 ≤ c1 := by omega
        have p0 : (0 ≤ (n2 : Int) ∧ (n2 : Int) ≤ (c1 : Int)) = True := eq_true ⟨by omega, by omega⟩
        have t2 : ((n2 : Int) == (n2 : Int)) = true := by simp
        clear hm hsk r1 r1' r2 l1 l2 hr1 hr2 hle HG1 HG2 HN1 HN2
        go_wp2_with fail
        refine HE.out.mono ?_
        rintro e w4 ⟨rfl, hb4⟩
        have HB4 := Lib.hid (HB3.out.trans (hb4.mono HB3.out.size))
        clear hb4 HE
        go_wp2_with fail
        go_ret
        exact ⟨rfl, HB4.out⟩
      · have t1 : decide (room < less) = true := decide_eq_true (by omega)
        clear r1 r2 l1 l2 hr1 hr2 hle HG1 HG2 HN1 HN2
        go_wp2_with fail
        go_ret
        exact ⟨rfl, HB3.out⟩
    · obtain ⟨rfl, -⟩ := HN2.out hr2
      clear r1 l1 hr1 hr2 HG1 HG2 HN1 HN2
      go_wp2_with fail
      go_ret
      exact ⟨rfl, HB3.out⟩
  · obtain ⟨rfl, -⟩ := HN1.out hr1
    clear hr1 HG1 HG2 HN1 HN2
    go_wp2_with fail
    go_ret
    exact ⟨rfl, HB3.out⟩
theorem walk (s room less : Int) (a1 : Option Addr) (len1 cap1 : Nat) (z1 : List Int) (w : World) (w0 : (Lit.int .u64 s).wf = true) (w1 : (Lit.int .i64 room).wf = true) (w2 : (Lit.int .i64 less).wf = true) (w3 : IsRow .u64 w a1 len1 cap1 z1) :
    Calls Try.prog 4 #[.int .u64 s, .int .i64 room, .int .i64 less, .slice a1 len1 cap1] w fun e w' => e = .returned (.bool true) ∧ Below w.heap.size w w' := by
  obtain ⟨xs, hx⟩ := us_of w3
  obtain ⟨h1, -⟩ := IsRow.rd w3
  obtain ⟨x, rfl⟩ := U_of w0
  rw [← hx] at h1
  exact run x room less _ xs w h1
end Go.Proofs.Yticodfdonpookaa.bottomLess
