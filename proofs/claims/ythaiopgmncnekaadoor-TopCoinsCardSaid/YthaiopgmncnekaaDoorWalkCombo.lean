/- combo.of and combo.Of: what they answer. No condition. -/
import Derived.Test.YthaiopgmncnekaaDoorGen
set_option linter.unusedSimpArgs false
set_option linter.unusedVariables false
namespace Go.Proofs.YthaiopgmncnekaaDoor.Walk
open Go.RowKit
/-- (d + i) over i, by the loop's own steps. -/
def cf (d : Nat) : Nat → Nat
  | 0 => 1
  | i + 1 => cf d i * (d + (i + 1)) / (i + 1)
def ofN (n k : Nat) : Nat := if n < k then 0 else cf (n - min k (n - k)) (min k (n - k))
theorem cf_small : ∀ d, d < 61 → ∀ i, i < 31 → d + i ≤ 60 → i ≤ d → cf d i ≤ 200000000000000000 := by decide +kernel
theorem step_eq (o i m : Nat) (hi : 0 < i) : o / i * m + o % i * m / i = o * m / i := by
  have h := Nat.div_add_mod o i
  have e : o * m = i * (o / i * m) + o % i * m := by
    rw [← Nat.mul_assoc, ← Nat.add_mul, h]
  rw [e, Nat.mul_add_div hi]
theorem stepZ (o j d : Nat) : ((o * (d + (j + 1)) / (j + 1) : Nat) : Int) = (o : Int) / ((j : Int) + 1) * ((d : Int) + ((j : Int) + 1)) + (o : Int) % ((j : Int) + 1) * ((d : Int) + ((j : Int) + 1)) / ((j : Int) + 1) := by
  rw [← step_eq o (j + 1) (d + (j + 1)) (by omega)]
  simp only [Int.natCast_add, Int.natCast_mul, Int.natCast_ediv, Int.natCast_emod]
  rfl
set_option maxHeartbeats 800000 in
theorem of_walk (n k d kk : Nat) (hn : n ≤ 60) (hk : k ≤ n) (hd : n = d + kk) (hkd : kk ≤ d) (hmin : (k = kk ∧ d = n - k) ∨ (k = d ∧ kk < k)) (w : World) : Calls Tryd.prog 42 #[.int .i64 n, .int .i64 k] w fun e w' => e = .returned (.int .i64 (cf d kk : Nat)) ∧ Below w.heap.size w w' := by
  have HD := Lib.hid hd
  have e2 : (n : Int) - (kk : Int) = (d : Int) := by omega
  have b1 : d + kk ≤ 60 := by omega
  clear hd
  rcases hmin with ⟨rfl, h2⟩ | ⟨rfl, h2⟩
  · have hle : (k : Int) ≤ (d : Int) := by omega
    clear h2
    go_enter Tryd.func42, Tryd.ntmps42
    go_wp2_with fail
    go_loopw [5, 6] (fun o i wr => ∃ j : Nat, j ≤ k ∧ i = .int .i64 ((j : Int) + 1) ∧ o = .int .i64 (cf d j : Nat) ∧ Below w.heap.size w wr) (fun _ i _ => k + 1 - (intOf i).toNat)
    case atStart => exact ⟨0, Nat.zero_le _, rfl, rfl, Below.refl _ _⟩
    case round =>
      obtain ⟨j, hj, rfl, rfl, hbel⟩ := hrel
      by_cases hlt : j < k
      · have hs := cf_small d (by omega) (j + 1) (by omega) (by omega) (by omega)
        have ho := cf_small d (by omega) j (by omega) (by omega) (by omega)
        have HE : Hid (((cf d (j + 1) : Nat) : Int) = (cf d j : Int) / ((j : Int) + 1) * ((d : Int) + ((j : Int) + 1)) + (cf d j : Int) % ((j : Int) + 1) * ((d : Int) + ((j : Int) + 1)) / ((j : Int) + 1)) := stepZ (cf d j) j d
        have q0 : 0 ≤ (cf d j : Int) / ((j : Int) + 1) := Int.ediv_nonneg (by omega) (by omega)
        have q1 : (cf d j : Int) / ((j : Int) + 1) ≤ (cf d j : Int) := Int.ediv_le_self _ (by omega)
        have r0 : 0 ≤ (cf d j : Int) % ((j : Int) + 1) := Int.emod_nonneg _ (by omega)
        have r1 : (cf d j : Int) % ((j : Int) + 1) < (j : Int) + 1 := Int.emod_lt_of_pos _ (by omega)
        have m0 : 0 ≤ (cf d j : Int) / ((j : Int) + 1) * ((d : Int) + ((j : Int) + 1)) := Int.mul_nonneg q0 (by omega)
        have m1 : 0 ≤ (cf d j : Int) % ((j : Int) + 1) * ((d : Int) + ((j : Int) + 1)) := Int.mul_nonneg r0 (by omega)
        have m2 : (cf d j : Int) % ((j : Int) + 1) * ((d : Int) + ((j : Int) + 1)) ≤ 100 * 200 := Int.mul_le_mul (by omega) (by omega) (by omega) (by omega)
        have m3 : 0 ≤ (cf d j : Int) % ((j : Int) + 1) * ((d : Int) + ((j : Int) + 1)) / ((j : Int) + 1) := Int.ediv_nonneg m1 (by omega)
        have m4 : (cf d j : Int) % ((j : Int) + 1) * ((d : Int) + ((j : Int) + 1)) / ((j : Int) + 1) ≤ (cf d j : Int) % ((j : Int) + 1) * ((d : Int) + ((j : Int) + 1)) := Int.ediv_le_self _ m1
        have m5 : (cf d j : Int) / ((j : Int) + 1) * ((d : Int) + ((j : Int) + 1)) ≤ 200000000000000000 := by have := HE.out; omega
        have j1 : (1 : Int) ≤ (j : Int) + 1 := by omega
        clear hs
        generalize cf d j = o at *
        go_wp2_with fail
        go_quiet (fail)
        go_wp2_with fail
        go_roundw
        case rel => exact ⟨j + 1, by omega, by go_num, by rw [HE.out], hbel.drewN _⟩
        case measure => simp [intOf]; omega
      · obtain rfl : j = k := by omega
        generalize hq : cf d j = o at *
        have HQ := Lib.hid hq; clear hq
        go_wp2_with fail
        go_ret
        exact ⟨by rw [HQ.out]; rfl, hbel⟩
  · have e3 : (n : Int) - (k : Int) = (kk : Int) := by omega
    have hle : ¬ (k : Int) ≤ (kk : Int) := by omega
    clear h2
    go_enter Tryd.func42, Tryd.ntmps42
    go_wp2_with fail
    go_loopw [5, 6] (fun o i wr => ∃ j : Nat, j ≤ kk ∧ i = .int .i64 ((j : Int) + 1) ∧ o = .int .i64 (cf k j : Nat) ∧ Below w.heap.size w wr) (fun _ i _ => kk + 1 - (intOf i).toNat)
    case atStart => exact ⟨0, Nat.zero_le _, rfl, rfl, Below.refl _ _⟩
    case round =>
      obtain ⟨j, hj, rfl, rfl, hbel⟩ := hrel
      by_cases hlt : j < kk
      · have hs := cf_small k (by omega) (j + 1) (by omega) (by omega) (by omega)
        have ho := cf_small k (by omega) j (by omega) (by omega) (by omega)
        have HE : Hid (((cf k (j + 1) : Nat) : Int) = (cf k j : Int) / ((j : Int) + 1) * ((k : Int) + ((j : Int) + 1)) + (cf k j : Int) % ((j : Int) + 1) * ((k : Int) + ((j : Int) + 1)) / ((j : Int) + 1)) := stepZ (cf k j) j k
        have q0 : 0 ≤ (cf k j : Int) / ((j : Int) + 1) := Int.ediv_nonneg (by omega) (by omega)
        have q1 : (cf k j : Int) / ((j : Int) + 1) ≤ (cf k j : Int) := Int.ediv_le_self _ (by omega)
        have r0 : 0 ≤ (cf k j : Int) % ((j : Int) + 1) := Int.emod_nonneg _ (by omega)
        have r1 : (cf k j : Int) % ((j : Int) + 1) < (j : Int) + 1 := Int.emod_lt_of_pos _ (by omega)
        have m0 : 0 ≤ (cf k j : Int) / ((j : Int) + 1) * ((k : Int) + ((j : Int) + 1)) := Int.mul_nonneg q0 (by omega)
        have m1 : 0 ≤ (cf k j : Int) % ((j : Int) + 1) * ((k : Int) + ((j : Int) + 1)) := Int.mul_nonneg r0 (by omega)
        have m2 : (cf k j : Int) % ((j : Int) + 1) * ((k : Int) + ((j : Int) + 1)) ≤ 100 * 200 := Int.mul_le_mul (by omega) (by omega) (by omega) (by omega)
        have m3 : 0 ≤ (cf k j : Int) % ((j : Int) + 1) * ((k : Int) + ((j : Int) + 1)) / ((j : Int) + 1) := Int.ediv_nonneg m1 (by omega)
        have m4 : (cf k j : Int) % ((j : Int) + 1) * ((k : Int) + ((j : Int) + 1)) / ((j : Int) + 1) ≤ (cf k j : Int) % ((j : Int) + 1) * ((k : Int) + ((j : Int) + 1)) := Int.ediv_le_self _ m1
        have m5 : (cf k j : Int) / ((j : Int) + 1) * ((k : Int) + ((j : Int) + 1)) ≤ 200000000000000000 := by have := HE.out; omega
        have j1 : (1 : Int) ≤ (j : Int) + 1 := by omega
        clear hs
        generalize cf k j = o at *
        go_wp2_with fail
        go_quiet (fail)
        go_wp2_with fail
        go_roundw
        case rel => exact ⟨j + 1, by omega, by go_num, by rw [HE.out], hbel.drewN _⟩
        case measure => simp [intOf]; omega
      · obtain rfl : j = kk := by omega
        generalize hq : cf k j = o at *
        have HQ := Lib.hid hq; clear hq
        go_wp2_with fail
        go_ret
        exact ⟨by rw [HQ.out]; rfl, hbel⟩
theorem of_in (n k : Nat) (hn : n ≤ 60) (hk : k ≤ n) (w : World) : Calls Tryd.prog 42 #[.int .i64 n, .int .i64 k] w fun e w' => e = .returned (.int .i64 (ofN n k : Nat)) ∧ Below w.heap.size w w' := by
  have h := of_walk n k (n - min k (n - k)) (min k (n - k)) hn hk (by omega) (by omega) (by omega) w
  rwa [show cf (n - min k (n - k)) (min k (n - k)) = ofN n k by rw [ofN, if_neg (by omega)]] at h
theorem of_out (n k : Nat) (hk : n < k) (w : World) : Calls Tryd.prog 42 #[.int .i64 n, .int .i64 k] w fun e w' => e = .returned (.int .i64 (ofN n k : Nat)) ∧ Below w.heap.size w w' := by
  have HF : Hid (ofN n k = 0) := by show _ = _; rw [ofN, if_pos hk]
  go_enter Tryd.func42, Tryd.ntmps42
  go_wp2_with fail
  go_ret
  exact ⟨by rw [HF.out]; rfl, Below.refl _ _⟩
theorem of_any (n k : Nat) (hn : n ≤ 60) (w : World) : Calls Tryd.prog 42 #[.int .i64 n, .int .i64 k] w fun e w' => e = .returned (.int .i64 (ofN n k : Nat)) ∧ Below w.heap.size w w' := by
  by_cases hk : k ≤ n
  · exact of_in n k hn hk w
  · exact of_out n k (by omega) w
theorem Of_any (n k : Nat) (hn : n ≤ 60) (w : World) : Calls Tryd.prog 23 #[.int .i64 n, .int .i64 k] w fun e w' => e = .returned (.tuple #[.int .i64 (ofN n k : Nat), .int .i64 0]) ∧ Below w.heap.size w w' := by
  have H := Lib.hid (of_any n k hn)
  generalize ofN n k = o at *
  go_enter Tryd.func23, Tryd.ntmps23
  go_wp2_with fail
  refine (H.out _).mono ?_
  rintro e w' ⟨rfl, hb⟩
  go_wp2_with fail
  go_ret2
  exact ⟨rfl, hb⟩
end Go.Proofs.YthaiopgmncnekaaDoor.Walk
