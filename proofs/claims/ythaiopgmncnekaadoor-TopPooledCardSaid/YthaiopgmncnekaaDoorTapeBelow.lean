/- tape.width, tape.Below: what they answer. No condition. -/
import Derived.Test.YthaiopgmncnekaaDoorTapeDef
import Derived.Test.YthaiopgmncnekaaDoorTapeLen
set_option linter.unusedSimpArgs false
set_option linter.unusedVariables false
set_option maxRecDepth 20000
namespace Go.Proofs.YthaiopgmncnekaaDoor.Tape
open Go.RowKit
theorem width_any (n : Nat) (h1 : 1 ≤ n) (h2 : n ≤ 1099511627776) (w : World) : Calls Tryd.prog 47 #[.int .i64 n] w fun e w' => e = .returned (.int .i64 (wid n : Nat)) ∧ w' = w := by
  have hc : (n : Int) - 1 = ((n - 1 : Nat) : Int) := by omega
  have HC := Lib.hid (fun w => Tryd.bits_Len ((n - 1 : Nat) : Int) w (by omega) (by omega))
  go_enter Tryd.func47, Tryd.ntmps47
  go_wp2_with fail
  refine (HC.out _).mono ?_
  rintro e w' ⟨rfl, rfl⟩
  go_wp2_with fail
  go_ret
  exact ⟨rfl, rfl⟩
theorem wid_le (n : Nat) (h2 : n ≤ 1099511627776) : wid n ≤ 40 := Lib.bitLen_le (n - 1) 40 (by omega) (by omega)
theorem num_snoc (t : List Bool) (b : Bool) : num 0 (t ++ [b]) = 2 * num 0 t + if b then 1 else 0 := by rw [num_append]; rfl
theorem take_snoc {t : List Bool} {i : Nat} (h : i < t.length) : t.take (i + 1) = t.take i ++ [t.getD i false] := by
  rw [List.take_add_one, List.getD_eq_getElem?_getD, List.getElem?_eq_getElem h]; rfl
def bz : Option (Nat × Nat) → Ending → Prop
  | none, e => ∃ c : Int, c ≠ 0 ∧ -9223372036854775808 ≤ c ∧ c ≤ 9223372036854775807 ∧ e = .returned (.tuple #[.int .i64 0, .int .i64 0, .int .i64 c])
  | some q, e => e = .returned (.tuple #[.int .i64 q.1, .int .i64 q.2, .int .i64 0])
def bv : Option (Nat × Nat) → Value
  | none => .tuple #[.int .i64 0, .int .i64 0, .int .i64 7]
  | some q => .tuple #[.int .i64 q.1, .int .i64 q.2, .int .i64 0]
theorem below_bad (v : Value) (n : Int) (h : ¬ (1 ≤ n ∧ n ≤ 1099511627776)) (w : World) : Calls Tryd.prog 28 #[v, .int .i64 n] w fun e w' => bz none e ∧ w = w' := by
  have h' : n < 1 ∨ 1099511627776 < n := by omega
  clear h
  rcases h' with h | h
  all_goals
    go_enter Tryd.func28, Tryd.ntmps28
    go_wp2_with fail
    all_goals
      go_ret3
      exact ⟨⟨2, by decide, by decide, by decide, rfl⟩, rfl⟩
set_option maxHeartbeats 1600000 in
theorem below_ok (v : Value) (z : List Bool) (n : Nat) (h1 : 1 ≤ n) (h2 : n ≤ 1099511627776) (w : World) (h : RdB w v z) :
    Calls Tryd.prog 28 #[v, .int .i64 n] w fun e w' => e = .returned (bv (bel (wid n) n (z.length + 1) z)) ∧ w = w' := by
  obtain ⟨a, cap, rfl, hlc, hcm, hop⟩ := h.open
  clear h
  have HOP := Lib.hid hop; clear hop
  have HW := Lib.hid (fun w => width_any n h1 h2 w)
  have hw40 := wid_le n h2
  generalize wid n = k at *
  have d1 : decide ((n : Int) < 1) = false := by simp; omega
  have d2 : decide (1099511627776 < (n : Int)) = false := by simp; omega
  by_cases hk : k = 0
  · subst hk
    have HB : Hid (bel 0 n (z.length + 1) z = some (0, 0)) := by
      show _ = _
      rw [bel, if_neg (by omega), List.take_zero, if_pos (by simp [num]; omega)]; rfl
    cases a with
    | none =>
      go_enter Tryd.func28, Tryd.ntmps28
      go_wp2_with fail
      refine (HW.out _).mono ?_
      rintro e w' ⟨rfl, rfl⟩
      go_wp2_with fail
      refine wp_loop_rounds 1 ?_
      rw [rounds_succ]
      go_wp2_with fail
      refine wp_loop_rounds 1 ?_
      rw [rounds_succ]
      go_wp2_with fail
      all_goals
        go_ret3
        exact ⟨by rw [HB.out]; rfl, rfl⟩
    | some x =>
      go_enter Tryd.func28, Tryd.ntmps28
      go_wp2_with fail
      refine (HW.out _).mono ?_
      rintro e w' ⟨rfl, rfl⟩
      go_wp2_with fail
      refine wp_loop_rounds 1 ?_
      rw [rounds_succ]
      go_wp2_with fail
      refine wp_loop_rounds 1 ?_
      rw [rounds_succ]
      go_wp2_with fail
      all_goals
        go_ret3
        exact ⟨by rw [HB.out]; rfl, rfl⟩
  · have hk1 : 1 ≤ k := by omega
    have hlen0 : 0 ≤ z.length := Nat.zero_le _
    go_enter Tryd.func28, Tryd.ntmps28
    go_wp2_with fail
    refine (HW.out _).mono ?_
    rintro e w' ⟨rfl, rfl⟩
    go_wp2_with fail
    go_loop [8] (fun uv => ∃ u f : Nat, uv = .int .i64 u ∧ u ≤ z.length ∧ Hid (bel k n (z.length + 1) z = (bel k n f (z.drop u)).map fun q => (q.1, q.2 + u)) ∧ z.length - u < f) (fun uv => z.length - (intOf uv).toNat)
    case atStart => exact ⟨0, z.length + 1, rfl, Nat.zero_le _, by show _ = _; simp, by omega⟩
    case round =>
      obtain ⟨u, f, rfl, hu, hb, hf⟩ := hrel
      obtain ⟨f, rfl⟩ : ∃ g, f = g + 1 := ⟨f - 1, by omega⟩
      by_cases hs : z.length - u < k
      · have HE : Hid (bel k n (z.length + 1) z = none) := by
          show _ = _
          rw [hb.out, bel, if_pos (by rw [List.length_drop]; exact hs)]; rfl
        have c0 : ((z.length : Int) - (u : Int) < (k : Int)) = True := by simp; omega
        go_wp2_with fail
        go_ret3
        exact ⟨by rw [HE.out]; rfl, rfl⟩
      · have hd : (z.drop u).length = z.length - u := List.length_drop
        obtain ⟨b, off, rfl, hlt, hc⟩ := HOP.out u (by omega)
        have HC := Lib.hid hc; clear hc
        have hb' : Hid (bel k n (z.length + 1) z = if num 0 ((z.drop u).take k) < n then some (num 0 ((z.drop u).take k), k + u) else (bel k n f (z.drop (u + k))).map fun q => (q.1, q.2 + (u + k))) := by
          show _ = _
          rw [hb.out, bel, if_neg (by rw [hd]; exact hs)]
          by_cases hx : num 0 ((z.drop u).take k) < n
          · rw [if_pos hx, if_pos hx]; rfl
          · rw [if_neg hx, if_neg hx, Option.map_map, List.drop_drop]
            congr 1
            funext q; simp; omega
        obtain ⟨g, hg⟩ : ∃ g : Nat → Nat, g = fun i => num 0 ((z.drop u).take i) := ⟨_, rfl⟩
        have G0 : Hid (g 0 = 0) := by show _ = _; rw [hg]; rfl
        have G1 : Hid (∀ i, i < k → g (i + 1) = 2 * g i + if z.getD (u + i) false then 1 else 0) := fun i hi => by
          rw [hg]
          show num 0 ((z.drop u).take (i + 1)) = _
          rw [take_snoc (by omega), num_snoc]
          congr 2
          simp [List.getD_eq_getElem?_getD, List.getElem?_drop]
        have G2 : Hid (∀ i, i ≤ k → g i < 1099511627776) := fun i hi => by
          rw [hg]
          have := (num_le ((z.drop u).take i) 0).2
          rw [List.length_take, Nat.zero_add, Nat.one_mul] at this
          show num 0 ((z.drop u).take i) < _
          have h3 : 2 ^ (min i (z.drop u).length) ≤ 2 ^ 40 := Nat.pow_le_pow_right (by decide) (by omega)
          omega
        have G3 : Hid (g k = num 0 ((z.drop u).take k)) := by show _ = _; rw [hg]
        clear hg hb
        rw [← G3.out] at hb'
        clear G3
        have c0 : decide ((z.length : Int) - (u : Int) < (k : Int)) = false := by simp; omega
        have c1 : ¬ cap = u := by omega
        have c2 : ¬ cap - u = 0 := by omega
        go_wp2_with fail
        go_loop [9, 33] (fun xv iv => ∃ i : Nat, i ≤ k ∧ iv = .int .i64 i ∧ xv = .int .i64 (g i : Nat)) (fun _ iv => k - (intOf iv).toNat)
        case atStart => exact ⟨0, Nat.zero_le _, rfl, by rw [G0.out]; rfl⟩
        case round =>
          obtain ⟨i, hi, rfl, rfl⟩ := hrel
          by_cases hik : i < k
          · have b1 := G2.out i (by omega)
            have b2 := G2.out (i + 1) (by omega)
            have g1 := G1.out i hik
            have cc := HC.out (u + i) (by omega)
            rw [← Nat.add_assoc] at cc
            cases hv : z.getD (u + i) false
            · rw [hv] at cc g1
              have GG : Hid (g (i + 1) = 2 * g i) := g1
              clear g1 b2
              generalize g i = y at *
              go_wp2_with fail
              go_round
              case rel => exact ⟨i + 1, by omega, by go_num, by rw [GG.out]; go_num⟩
              case measure => simp [intOf]; omega
            · rw [hv] at cc g1
              have GG : Hid (g (i + 1) = 2 * g i + 1) := g1
              clear g1 b2
              generalize g i = y at *
              go_wp2_with fail
              go_round
              case rel => exact ⟨i + 1, by omega, by go_num, by rw [GG.out]; go_num⟩
              case measure => simp [intOf]; omega
          · obtain rfl : i = k := by omega
            have b1 := G2.out i (Nat.le_refl _)
            clear G0 G1 G2
            generalize g i = y at *
            by_cases hy : y < n
            · have HE : Hid (bel i n (z.length + 1) z = some (y, i + u)) := by show _ = _; rw [hb'.out, if_pos hy]
              go_wp2_with fail
              go_ret3
              exact ⟨by rw [HE.out]; show _ = Ending.returned (.tuple _); congr 4; go_num, rfl⟩
            · have HE : Hid (bel i n (z.length + 1) z = (bel i n f (z.drop (u + i))).map fun q => (q.1, q.2 + (u + i))) := by show _ = _; rw [hb'.out, if_neg hy]
              have hy' : decide ((y : Int) < (n : Int)) = false := by simp; omega
              go_wp2_with fail
              go_round
              case rel => exact ⟨u + i, f, by go_num, by omega, HE.out, by omega⟩
              case measure => simp [intOf]; omega
theorem below_any (v : Value) (z : List Bool) (n : Int) (w : World) (h : RdB w v z) :
    Calls Tryd.prog 28 #[v, .int .i64 n] w fun e w' => bz (belZ n z) e ∧ w = w' := by
  unfold belZ
  by_cases hn : 1 ≤ n ∧ n ≤ 1099511627776
  · rw [if_pos hn]
    have := below_ok v z n.toNat (by omega) (by omega) w h
    rw [show ((n.toNat : Nat) : Int) = n by omega] at this
    refine this.mono fun e w' ⟨h1, h2⟩ => ⟨?_, h2⟩
    generalize bel (wid n.toNat) n.toNat (z.length + 1) z = o at *
    cases o with
    | none => exact ⟨7, by decide, by decide, by decide, h1⟩
    | some q => exact h1
  · rw [if_neg hn]; exact below_bad v n hn w
end Go.Proofs.YthaiopgmncnekaaDoor.Tape
