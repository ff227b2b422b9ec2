/- stats.Of, Right, Spread, Join: what they answer. Condition: rows within the reach. -/
import Derived.Test.YthaiopgmncnekaaGreatDoorStatMomL
set_option linter.unusedSimpArgs false
set_option linter.unusedVariables false
set_option maxRecDepth 20000
namespace Go.Proofs.YthaiopgmncnekaaGreatDoor.Stat
open Go.RowKit
def mv (n s q : Int) : Value := .agg #[.int .i64 n, .int .i64 s, .int .i64 q]
set_option maxHeartbeats 1600000 in
theorem of_bad (v : Value) (zs : List Int) (w : World) (h : Rd w v zs) (hno : ¬ OkL zs) :
    Calls Tryz.prog 16 #[v] w fun e w' => e = .returned (.tuple #[mv 0 0 0, .int .i64 2]) ∧ Below w.heap.size w w' := by
  obtain ⟨a, cap, rfl, hlc, hcm, hop⟩ := h.open
  generalize hn : zs.length = n at *
  have HN := Lib.hid hn
  have HO := Lib.hid hop
  by_cases h4 : n ≤ 400
  · have t1 : decide ((400 : Int) < (n : Int)) = false := decide_eq_false (by omega)
    have HEX : Hid (¬ Sml zs) := fun hs => hno ⟨by rw [HN.out]; exact h4, hs⟩
    clear h hop hn hno
    go_enter Tryz.func16, Tryz.ntmps16
    go_wp2_with fail
    clear t1
    go_loopw [13] (fun iv wr => ∃ (k : Nat) (x y z : Int), k ≤ n ∧ iv = .int .i64 k ∧ wr = (w.alloc (.cells #[.int .i64 0, .int .i64 0, .int .i64 0] 45)).alloc (.cells #[.int .i64 x, .int .i64 y, .int .i64 z] 45) ∧ Hid (Sml (zs.take k)) ∧ Hid (x = k ∧ y = sm (zs.take k) ∧ z = sq (zs.take k))) (fun iv _ => n - (intOf iv).toNat)
    case atStart => exact ⟨0, 0, 0, 0, Nat.zero_le _, rfl, rfl, (fun x hx => by simp at hx), ⟨rfl, rfl, rfl⟩⟩
    case round =>
      obtain ⟨k, x, y, z, hk, rfl, rfl, HS, HX⟩ := hrel
      by_cases hkn : k < n
      · obtain ⟨b, off, rfl, hb, hc⟩ := HO.out k hkn
        have c0 : ((w.alloc (.cells #[.int .i64 0, .int .i64 0, .int .i64 0] 45)).alloc (.cells #[.int .i64 x, .int .i64 y, .int .i64 z] 45)).cell? ⟨b, off + k, none⟩ = some (.int .i64 (zs.getD k 0)) := by
          rw [World.cell?_alloc_past _ _ _ (by simp; omega), World.cell?_alloc_past _ _ _ hb]; exact hc k hkn
        have hT := take_s zs k (by rw [HN.out]; exact hkn)
        have hsm := sm_take zs k (by rw [HN.out]; exact hkn)
        have hsq := sq_take zs k (by rw [HN.out]; exact hkn)
        have hbd := HS.out.bd
        rw [List.length_take, HN.out, Nat.min_eq_left hk] at hbd
        obtain ⟨e1, e2, e3⟩ := HX.out
        rw [← e2, ← e3] at hbd
        rw [← e2] at hsm
        rw [← e3] at hsq
        clear hc
        generalize zs.getD k 0 = u at *
        by_cases hu : -1048576 ≤ u ∧ u ≤ 1048576
        · have hSn : Hid (Sml (zs.take (k + 1))) := by
            show Sml _
            rw [hT]
            intro t ht
            rcases List.mem_append.1 ht with ht | ht
            · exact HS.out t ht
            · rw [List.mem_singleton.1 ht]; exact hu
          have hq := sqr_le hu
          have t1 : decide (u < -1048576) = false := decide_eq_false (by omega)
          have t2 : decide ((1048576 : Int) < u) = false := decide_eq_false (by omega)
          obtain ⟨uu, huu⟩ : ∃ uu, u * u = uu := ⟨_, rfl⟩
          rw [huu] at hsq hq
          obtain ⟨x', hx'⟩ : ∃ x', x + 1 = x' := ⟨_, rfl⟩
          obtain ⟨y', hy'⟩ : ∃ y', y + u = y' := ⟨_, rfl⟩
          obtain ⟨z', hz'⟩ : ∃ z', z + uu = z' := ⟨_, rfl⟩
          have w1 : IntKind.i64.wrap (x + 1) = x' := by rw [IntKind.wrap_i64]; omega
          have w2 : IntKind.i64.wrap (y + u) = y' := by rw [IntKind.wrap_i64]; omega
          have w3 : IntKind.i64.wrap (u * u) = uu := by rw [IntKind.wrap_i64, huu]; omega
          have w4 : IntKind.i64.wrap (z + uu) = z' := by rw [IntKind.wrap_i64]; omega
          have HXn : Hid (x' = ((k + 1 : Nat) : Int) ∧ y' = sm (zs.take (k + 1)) ∧ z' = sq (zs.take (k + 1))) := ⟨by omega, by omega, by omega⟩
          clear hT hsm hsq hbd e1 e2 e3 hx' hy' hz' huu hq
          go_wp2_with fail
          go_roundw
          case rel => exact ⟨k + 1, _, _, _, by omega, by go_num, rfl, hSn.out, HXn.out⟩
          case measure => simp [intOf]; omega
        · by_cases hu1 : u < -1048576
          · have t1 : decide (u < -1048576) = true := decide_eq_true hu1
            clear hT hsm hsq hbd e1 e2 e3 hu
            go_wp2_with fail
            exact bodyPost_ret (v := .tuple #[mv 0 0 0, .int .i64 2]) (by simp [results, Tryz.results16, go_sem, mv]) rfl ⟨rfl, ((Below.refl _ _).alloc (Nat.le_refl _) _).alloc (by simp) _⟩
          · have t1 : decide (u < -1048576) = false := decide_eq_false hu1
            have t2 : decide ((1048576 : Int) < u) = true := decide_eq_true (by omega)
            clear hT hsm hsq hbd e1 e2 e3 hu hu1
            go_wp2_with fail
            exact bodyPost_ret (v := .tuple #[mv 0 0 0, .int .i64 2]) (by simp [results, Tryz.results16, go_sem, mv]) rfl ⟨rfl, ((Below.refl _ _).alloc (Nat.le_refl _) _).alloc (by simp) _⟩
      · obtain rfl : k = n := by omega
        exfalso
        have := HS.out
        rw [List.take_of_length_le (by rw [HN.out]; exact Nat.le_refl _)] at this
        exact HEX.out this
  · have t1 : decide ((400 : Int) < (n : Int)) = true := decide_eq_true (by omega)
    clear h hop hn hno h4
    go_enter Tryz.func16, Tryz.ntmps16
    go_wp2_with fail
    exact bodyPost_ret (v := .tuple #[mv 0 0 0, .int .i64 2]) (by simp [results, Tryz.results16, go_sem, mv]) rfl ⟨rfl, (Below.refl _ _).alloc (Nat.le_refl _) _⟩
set_option maxHeartbeats 1600000 in
theorem of_good (v : Value) (zs : List Int) (w : World) (h : Rd w v zs) (hok : OkL zs) :
    Calls Tryz.prog 16 #[v] w fun e w' => e = .returned (.tuple #[mv zs.length (sm zs) (sq zs), .int .i64 0]) ∧ Below w.heap.size w w' := by
  obtain ⟨a, cap, rfl, hlc, hcm, hop⟩ := h.open
  obtain ⟨h4, hs⟩ := hok
  generalize hn : zs.length = n at *
  have HN := Lib.hid hn
  have HO := Lib.hid hop
  have HSM := Lib.hid hs
  have t1 : decide ((400 : Int) < (n : Int)) = false := decide_eq_false (by omega)
  clear h hop hn hs
  go_enter Tryz.func16, Tryz.ntmps16
  go_wp2_with fail
  clear t1
  go_loopw [13] (fun iv wr => ∃ (k : Nat) (x y z : Int), k ≤ n ∧ iv = .int .i64 k ∧ wr = (w.alloc (.cells #[.int .i64 0, .int .i64 0, .int .i64 0] 45)).alloc (.cells #[.int .i64 x, .int .i64 y, .int .i64 z] 45) ∧ Hid (x = k ∧ y = sm (zs.take k) ∧ z = sq (zs.take k))) (fun iv _ => n - (intOf iv).toNat)
  case atStart => exact ⟨0, 0, 0, 0, Nat.zero_le _, rfl, rfl, ⟨rfl, rfl, rfl⟩⟩
  case round =>
    obtain ⟨k, x, y, z, hk, rfl, rfl, HX⟩ := hrel
    by_cases hkn : k < n
    · obtain ⟨b, off, rfl, hb, hc⟩ := HO.out k hkn
      have c0 : ((w.alloc (.cells #[.int .i64 0, .int .i64 0, .int .i64 0] 45)).alloc (.cells #[.int .i64 x, .int .i64 y, .int .i64 z] 45)).cell? ⟨b, off + k, none⟩ = some (.int .i64 (zs.getD k 0)) := by
        rw [World.cell?_alloc_past _ _ _ (by simp; omega), World.cell?_alloc_past _ _ _ hb]; exact hc k hkn
      have hsm := sm_take zs k (by rw [HN.out]; exact hkn)
      have hsq := sq_take zs k (by rw [HN.out]; exact hkn)
      have hbd := (HSM.out.take k).bd
      have hu := HSM.out _ (getD_memI zs k (by rw [HN.out]; exact hkn))
      rw [List.length_take, HN.out, Nat.min_eq_left hk] at hbd
      obtain ⟨e1, e2, e3⟩ := HX.out
      rw [← e2, ← e3] at hbd
      rw [← e2] at hsm
      rw [← e3] at hsq
      clear hc
      generalize zs.getD k 0 = u at *
      have hq := sqr_le hu
      have t1 : decide (u < -1048576) = false := decide_eq_false (by omega)
      have t2 : decide ((1048576 : Int) < u) = false := decide_eq_false (by omega)
      obtain ⟨uu, huu⟩ : ∃ uu, u * u = uu := ⟨_, rfl⟩
      rw [huu] at hsq hq
      obtain ⟨x', hx'⟩ : ∃ x', x + 1 = x' := ⟨_, rfl⟩
      obtain ⟨y', hy'⟩ : ∃ y', y + u = y' := ⟨_, rfl⟩
      obtain ⟨z', hz'⟩ : ∃ z', z + uu = z' := ⟨_, rfl⟩
      have w1 : IntKind.i64.wrap (x + 1) = x' := by rw [IntKind.wrap_i64]; omega
      have w2 : IntKind.i64.wrap (y + u) = y' := by rw [IntKind.wrap_i64]; omega
      have w3 : IntKind.i64.wrap (u * u) = uu := by rw [IntKind.wrap_i64, huu]; omega
      have w4 : IntKind.i64.wrap (z + uu) = z' := by rw [IntKind.wrap_i64]; omega
      have HXn : Hid (x' = ((k + 1 : Nat) : Int) ∧ y' = sm (zs.take (k + 1)) ∧ z' = sq (zs.take (k + 1))) := ⟨by omega, by omega, by omega⟩
      clear hsm hsq hbd e1 e2 e3 hx' hy' hz' huu hq hu
      go_wp2_with fail
      go_roundw
      case rel => exact ⟨k + 1, _, _, _, by omega, by go_num, rfl, HXn.out⟩
      case measure => simp [intOf]; omega
    · obtain rfl : k = n := by omega
      obtain ⟨e1, e2, e3⟩ := HX.out
      rw [List.take_of_length_le (by rw [HN.out]; exact Nat.le_refl _)] at e2 e3
      have HE : Hid (mv x y z = mv k (sm zs) (sq zs)) := by show _ = _; rw [e1, e2, e3]
      clear e1 e2 e3
      go_wp2_with fail
      refine bodyPost_ret (v := .tuple #[mv x y z, .int .i64 0]) (by simp [results, Tryz.results16, go_sem, mv]) rfl ⟨by rw [HE.out], ?_⟩
      exact ((Below.refl _ _).alloc (Nat.le_refl _) _).alloc (by simp) _
end Go.Proofs.YthaiopgmncnekaaGreatDoor.Stat
