/- The walk of DiceRound. No condition. -/
import Derived.Test.YthjdhnjclcijhaaAl
import Derived.Test.YthjdhnjclcijhaaRound
set_option linter.unusedSimpArgs false
set_option linter.unusedVariables false
namespace Go.Proofs.Ythjdhnjclcijhaa.diceRound
open Go.RowKit Go.Proofs.Ythjdhnjclcijhaa
def fourV (a b c d : Value) : Nat → Value
  | 0 => a
  | 1 => b
  | 2 => c
  | _ => d
theorem side_lit (i : Nat) (hi : i < 4) (g m : Nat) (hm : m ≤ 50) (w : World) (hg : g < w.heap.size) (hk : w.cell? ⟨g, 0, none⟩ = some (.int .i64 m)) (cs : Array Value) (hcs : cs = ((fourL i).map (Value.int .i64)).toArray) :
    Calls Try.prog 13 #[.slice (some ⟨w.heap.size, 0, none⟩) 6 6, .pointer (some ⟨g, 0, none⟩)] (w.alloc (.cells cs 3)) fun e w' => ∃ a n c, e = .returned (.slice a n c) ∧ (Below w.heap.size w w' ∧ w'.cell? ⟨g, 0, none⟩ = some (.int .i64 m)) ∧ Rd w' (.slice a n c) (sideL m i) := by
  have hl : (fourL i).length = 6 := by
    match i, hi with
    | 0, _ => decide
    | 1, _ => decide
    | 2, _ => decide
    | 3, _ => decide
  have hb0 : Below w.heap.size w (w.alloc (.cells cs 3)) := (Below.refl _ _).alloc (Nat.le_refl _) _
  have k1 := ((bcell hb0).1 g 0 hg).trans hk
  refine (side_four i hi _ g m hm _ (Rd.built w (fourL i) cs 3 hcs 6 hl (by unfold maxLen; omega)) k1).mono ?_
  rintro e w' ⟨hb, u, rfl, hr⟩
  have hb2 : Below w.heap.size w w' := hb0.trans (hb.mono hb0.size)
  obtain ⟨a, cap, rfl, -⟩ := hr.open
  exact ⟨a, _, cap, rfl, ⟨hb2, ((bcell hb2).1 g 0 hg).trans hk⟩, hr⟩
set_option maxHeartbeats 1600000 in
theorem zz (m : Nat) (hm : m ≤ 50) (w : World) :
    Calls Try.prog 5 #[.int .i64 m] w fun e w' => e = .returned (.bool true) ∧ Below w.heap.size w w' := by
  have c1 : decide ((m : Int) < 0) = false := by simp
  have c2 : decide (50 < (m : Int)) = false := decide_eq_false (by omega)
  have HF := Lib.hid (fun i hi g w hg hk cs hcs => side_lit i hi g m hm w hg hk cs hcs)
  have HR := Lib.hid (fun i hi => round_facts m hm i hi)
  clear hm
  go_enter Try.func5, Try.ntmps5
  go_wp2_with fail
  refine (alive_any _).mono ?_
  rintro e w1 ⟨rfl, hb1⟩
  have k0 : w1.cell? ⟨w.heap.size, 0, none⟩ = some (.int .i64 m) := by
    rw [(bcell hb1).1 w.heap.size 0 (by simp)]
    exact cell_of_row _ _ 0 _ _ _ (heap_alloc_new w _)
  have hgl := World.block_lt_of_cell? w1 _ k0
  have HB1 : Hid (Below w.heap.size w w1) := by
    have h0 : Below w.heap.size w (w.alloc (Obj.cells #[Value.int IntKind.i64 ↑m] 3)) := (Below.refl _ _).alloc (Nat.le_refl _) _
    exact h0.trans (hb1.mono h0.size)
  have HK1 := Lib.hid k0
  have HG1 := Lib.hid hgl
  clear hb1 hgl
  go_wp2_with fail
  clear k0
  refine (HF.out 0 (by omega) w.heap.size w1 HG1.out HK1.out _ rfl).mono ?_
  rintro e w2 ⟨a0, n0, q0, rfl, hb2, hr0⟩
  have HB2 := Lib.hid (HB1.out.trans (hb2.1.mono HB1.out.size))
  have HK2 := Lib.hid hb2.2
  have HG2 := Lib.hid (World.block_lt_of_cell? w2 _ hb2.2)
  have HR0 := Lib.hid hr0
  clear hb2 hr0
  go_wp2_with fail
  refine (HF.out 1 (by omega) w.heap.size w2 HG2.out HK2.out _ rfl).mono ?_
  rintro e w3 ⟨a1, n1, q1, rfl, hb2, hr0⟩
  have HB3 := Lib.hid (HB2.out.trans (hb2.1.mono HB2.out.size))
  have HK3 := Lib.hid hb2.2
  have HG3 := Lib.hid (World.block_lt_of_cell? w3 _ hb2.2)
  have HR03 := Lib.hid (HR0.out.below hb2.1 (Nat.le_refl _))
  have HR1 := Lib.hid hr0
  clear hb2 hr0
  go_wp2_with fail
  refine (HF.out 2 (by omega) w.heap.size w3 HG3.out HK3.out _ rfl).mono ?_
  rintro e w4 ⟨a2, n2, q2, rfl, hb2, hr0⟩
  have HB4 := Lib.hid (HB3.out.trans (hb2.1.mono HB3.out.size))
  have HK4 := Lib.hid hb2.2
  have HG4 := Lib.hid (World.block_lt_of_cell? w4 _ hb2.2)
  have HR04 := Lib.hid (HR03.out.below hb2.1 (Nat.le_refl _))
  have HR14 := Lib.hid (HR1.out.below hb2.1 (Nat.le_refl _))
  have HR2 := Lib.hid hr0
  clear hb2 hr0
  go_wp2_with fail
  refine (HF.out 3 (by omega) w.heap.size w4 HG4.out HK4.out _ rfl).mono ?_
  rintro e w5 ⟨a3, n3, q3, rfl, hb2, hr0⟩
  have hb5 := HB4.out.trans (hb2.1.mono HB4.out.size)
  have HB5 := Lib.hid (hb5.alloc hb5.size (.cells #[.slice a0 n0 q0, .slice a1 n1 q1, .slice a2 n2 q2, .slice a3 n3 q3] 22))
  clear hb5
  have HR05 := Lib.hid ((HR04.out.below hb2.1 (Nat.le_refl _)).alloc (.cells #[.slice a0 n0 q0, .slice a1 n1 q1, .slice a2 n2 q2, .slice a3 n3 q3] 22))
  have HR15 := Lib.hid ((HR14.out.below hb2.1 (Nat.le_refl _)).alloc (.cells #[.slice a0 n0 q0, .slice a1 n1 q1, .slice a2 n2 q2, .slice a3 n3 q3] 22))
  have HR25 := Lib.hid ((HR2.out.below hb2.1 (Nat.le_refl _)).alloc (.cells #[.slice a0 n0 q0, .slice a1 n1 q1, .slice a2 n2 q2, .slice a3 n3 q3] 22))
  have HR35 := Lib.hid (hr0.alloc (.cells #[.slice a0 n0 q0, .slice a1 n1 q1, .slice a2 n2 q2, .slice a3 n3 q3] 22))
  clear hb2 hr0
  go_wp2_with fail
  generalize hwe : w5.alloc (.cells #[.slice a0 n0 q0, .slice a1 n1 q1, .slice a2 n2 q2, .slice a3 n3 q3] 22) = wE at *
  have HC : Hid (∀ i, i < 4 → wE.cell? ⟨w5.heap.size, i, none⟩ = some (fourV (.slice a0 n0 q0) (.slice a1 n1 q1) (.slice a2 n2 q2) (.slice a3 n3 q3) i)) := fun i hi => by
    rw [← hwe]
    exact cell_of_row _ _ i _ _ _ (heap_alloc_new w5 _) |>.trans (by
      match i, hi with
      | 0, _ => rfl
      | 1, _ => rfl
      | 2, _ => rfl
      | 3, _ => rfl)
  have HRD : Hid (∀ i, i < 4 → Rd wE (fourV (.slice a0 n0 q0) (.slice a1 n1 q1) (.slice a2 n2 q2) (.slice a3 n3 q3) i) (sideL m i)) := fun i hi => by
    match i, hi with
    | 0, _ => exact HR05.out
    | 1, _ => exact HR15.out
    | 2, _ => exact HR25.out
    | 3, _ => exact HR35.out
  clear HR05 HR15 HR25 HR35 hwe
  generalize fourV (.slice a0 n0 q0) (.slice a1 n1 q1) (.slice a2 n2 q2) (.slice a3 n3 q3) = V at *
  generalize w5.heap.size = g5 at *
  go_loopw [33, 5, 6, 7, 8] (fun iv b c d e wr => ∃ i : Nat, i ≤ 4 ∧ iv = .int .i64 i ∧ ∃ k, wr = wE.drewN k) (fun iv _ _ _ _ _ => 4 - (intOf iv).toNat)
  case atStart => exact ⟨0, by omega, rfl, 0, rfl⟩
  case round =>
    obtain ⟨i, hi, rfl, hk⟩ := hrel
    have HK := Lib.hid hk
    by_cases hlt : i < 4
    · have k1 : wr.cell? ⟨g5, i, none⟩ = some (V i) := by rw [hk.choose_spec]; exact HC.out i hlt
      have k2 : wr.cell? ⟨g5, (i + 1) % 4, none⟩ = some (V ((i + 1) % 4)) := by rw [hk.choose_spec]; exact HC.out ((i + 1) % 4) (by omega)
      have R1 : Rd wr (V i) (sideL m i) := by rw [hk.choose_spec]; exact HRD.out i hlt
      have R2 : Rd wr (V ((i + 1) % 4)) (sideL m ((i + 1) % 4)) := by rw [hk.choose_spec]; exact HRD.out ((i + 1) % 4) (by omega)
      have G1 : Hid (∀ n, Calls Try.prog 15 #[V i, V ((i + 1) % 4)] (wr.drewN n) fun e w' => e = .returned (.tuple #[.int .i64 24, .int .i64 0, .int .i64 0]) ∧ w' = wr.drewN n) := fun n => by
        have R1' : Rd (wr.drewN n) (V i) (sideL m i) := R1
        have R2' : Rd (wr.drewN n) (V ((i + 1) % 4)) (sideL m ((i + 1) % 4)) := R2
        have := beats_ok _ _ _ _ _ R1' R2' (HR.out i hlt).1 (HR.out ((i + 1) % 4) (by omega)).1
        rw [(HR.out i hlt).2.1, (HR.out i hlt).2.2] at this
        refine this.mono ?_
        rintro e w' ⟨h1, h2⟩
        exact ⟨h1, h2.symm⟩
      have hm4 : ((i : Int) + 1) % 4 = ((((i + 1) % 4 : Nat)) : Int) := by omega
      have hm5 : (i + 1) % 4 < 4 := by omega
      clear hk R1 R2
      generalize V ((i + 1) % 4) = V2 at *
      generalize V i = V1 at *
      generalize (i + 1) % 4 = j at *
      go_wp2_with fail
      go_quiet ((go_at_call 15; exact Calls.quiet_of_same (G1.out _)))
      go_wp2_with fail
      go_roundw
      case rel => exact ⟨i + 1, by omega, by go_num, by obtain ⟨k, rfl⟩ := HK.out; exact ⟨_, World.drewN_drewN _ _ _⟩⟩
      case measure => simp [intOf]; omega
    · obtain rfl : i = 4 := by omega
      go_wp2_with fail
      go_ret
      obtain ⟨k, rfl⟩ := HK.out
      exact ⟨rfl, HB5.out.drewN _⟩
theorem walk (m : Int) (w : World) (_ : (Lit.int .i64 m).wf = true) :
    Calls Try.prog 5 #[.int .i64 m] w fun e w' => e = .returned (.bool true) ∧ Below w.heap.size w w' := by
  by_cases h : 0 ≤ m ∧ m ≤ 50
  · obtain ⟨n, rfl⟩ : ∃ n : Nat, m = n := ⟨m.toNat, by omega⟩
    exact zz n (by omega) w
  · by_cases h0 : m < 0
    · have c1 : decide (m < 0) = true := decide_eq_true h0
      clear h
      go_enter Try.func5, Try.ntmps5
      go_wp2_with fail
      refine (alive_any _).mono ?_
      rintro e w1 ⟨rfl, hb1⟩
      have k0 : w1.cell? ⟨w.heap.size, 0, none⟩ = some (.int .i64 m) := by
        rw [(bcell hb1).1 w.heap.size 0 (by simp)]
        exact cell_of_row _ _ 0 _ _ _ (heap_alloc_new w _)
      have HB1 : Hid (Below w.heap.size w w1) := by
        have h0 : Below w.heap.size w (w.alloc (Obj.cells #[Value.int IntKind.i64 m] 3)) := (Below.refl _ _).alloc (Nat.le_refl _) _
        exact h0.trans (hb1.mono h0.size)
      clear hb1
      go_wp2_with fail
      go_ret
      exact ⟨rfl, HB1.out⟩
    · have c1 : decide (m < 0) = false := decide_eq_false h0
      have c2 : decide (50 < m) = true := decide_eq_true (by omega)
      clear h
      go_enter Try.func5, Try.ntmps5
      go_wp2_with fail
      refine (alive_any _).mono ?_
      rintro e w1 ⟨rfl, hb1⟩
      have k0 : w1.cell? ⟨w.heap.size, 0, none⟩ = some (.int .i64 m) := by
        rw [(bcell hb1).1 w.heap.size 0 (by simp)]
        exact cell_of_row _ _ 0 _ _ _ (heap_alloc_new w _)
      have HB1 : Hid (Below w.heap.size w w1) := by
        have h0 : Below w.heap.size w (w.alloc (Obj.cells #[Value.int IntKind.i64 m] 3)) := (Below.refl _ _).alloc (Nat.le_refl _) _
        exact h0.trans (hb1.mono h0.size)
      clear hb1
      go_wp2_with fail
      go_ret
      exact ⟨rfl, HB1.out⟩
end Go.Proofs.Ythjdhnjclcijhaa.diceRound
