/- combo.Right and Rank: what they answer, of every list. No condition. -/
import Derived.Test.YtmiejokgjbnciaaDef
set_option linter.unusedSimpArgs false
set_option linter.unusedVariables false
namespace Go.Proofs.Ytmiejokgjbnciaa
open Go.RowKit
def RightPost (R : Prop) (w : World) (e : Ending) (w' : World) : Prop := w = w' ∧ ∃ b, e = .returned (.bool b) ∧ (b = true ↔ R)
theorem RightPost.no {R : Prop} {w : World} {e : Ending} (he : e = .returned (.bool false)) (h : ¬ R) : RightPost R w e w := ⟨rfl, false, he, by simp [h]⟩
theorem RightPost.yes {R : Prop} {w : World} {e : Ending} (he : e = .returned (.bool true)) (h : R) : RightPost R w e w := ⟨rfl, true, he, by simp [h]⟩
set_option maxHeartbeats 800000 in
theorem right_any (n : Int) (v : Value) (zs : List Int) (w : World) (h : Rd w v zs) : Calls Try.prog 15 #[.int .i64 n, v] w (RightPost (RightP n zs) w) := by
  obtain ⟨a, cap, rfl, hlc, hcm, hop⟩ := h.open
  clear h
  have HO := Lib.hid hop; clear hop
  by_cases h0 : n < 0 ∨ 60 < n
  · have HF : Hid (¬ RightP n zs) := fun hr => by have := hr.1; have := hr.2.1; omega
    rcases h0 with h0 | h0
    all_goals
      go_enter Try.func15, Try.ntmps15
      go_wp2_with fail
      all_goals
        go_ret
        exact RightPost.no rfl HF.out
  · have n0 : 0 ≤ n := by omega
    have n1 : n ≤ 60 := by omega
    have HR : Hid (RightP n zs ↔ Rising n (fun i => zs.getD i 0) zs.length) := ⟨fun h => h.2.2, fun h => ⟨n0, n1, h⟩⟩
    generalize RightP n zs = R at *
    have HZ : Hid (∀ i, (fun i => zs.getD i 0) i = zs.getD i 0) := fun i => rfl
    generalize (fun i => zs.getD i 0) = f at *
    have HO2 : Hid (∀ i, i < zs.length → ∃ b off, a = some ⟨b, off, none⟩ ∧ w.cell? ⟨b, off + i, none⟩ = some (.int .i64 (f i)) ∧ (0 < i → w.cell? ⟨b, off + (i - 1), none⟩ = some (.int .i64 (f (i - 1))))) := fun i hi => by
      obtain ⟨b, off, h1, h2, h3⟩ := HO.out i hi
      exact ⟨b, off, h1, by rw [HZ.out]; exact h3 i hi, fun hp => by rw [HZ.out]; exact h3 (i - 1) (by omega)⟩
    clear HO
    generalize zs.length = L at *
    clear h0 HZ
    go_enter Try.func15, Try.ntmps15
    go_wp2_with fail
    go_loop [15] (fun i => ∃ k : Nat, k ≤ L ∧ i = .int .i64 k ∧ Hid (Rising n f k)) (fun i => L - (intOf i).toNat)
    case atStart => exact ⟨0, Nat.zero_le _, rfl, fun i hi => by omega⟩
    case round =>
      obtain ⟨k, hk, rfl, hris⟩ := hrel
      by_cases hlt : k < L
      · obtain ⟨b, off, rfl, c1, c2⟩ := HO2.out k hlt
        have HX : Hid ((0 ≤ f k ∧ f k < n ∧ (0 < k → f (k - 1) < f k)) → Rising n f (k + 1)) := fun h i hi => by
          rcases Nat.lt_or_ge i k with h1 | h1
          · exact hris.out i h1
          · obtain rfl : i = k := by omega
            exact h
        have HY : Hid (R → 0 ≤ f k ∧ f k < n ∧ (0 < k → f (k - 1) < f k)) := fun h => HR.out.1 h k hlt
        clear hris
        by_cases h1 : f k < 0 ∨ n ≤ f k
        · have HF : Hid (¬ R) := fun h => by have := HY.out h; omega
          clear c2 HX HY
          generalize f k = x at *
          rcases h1 with h1 | h1
          all_goals
            go_wp2_with fail
            all_goals
              go_ret
              exact RightPost.no rfl HF.out
        · have x0 : 0 ≤ f k := by omega
          have x1 : f k < n := by omega
          clear h1
          by_cases hp : 0 < k
          · obtain ⟨q, rfl⟩ : ∃ q, k = q + 1 := ⟨k - 1, by omega⟩
            have c2 := c2 hp
            simp only [Nat.add_sub_cancel] at c2 HX HY
            by_cases h2 : f q < f (q + 1)
            · have HN := Lib.hid (HX.out ⟨x0, x1, fun _ => h2⟩)
              clear HX HY
              generalize f q = y at *
              generalize f (q + 1) = x at *
              go_wp2_with fail
              go_round
              case rel => exact ⟨q + 1 + 1, by omega, by go_num, HN⟩
              case measure => simp [intOf]; omega
            · have HF : Hid (¬ R) := fun h => h2 ((HY.out h).2.2 (by omega))
              clear HX HY
              generalize f q = y at *
              generalize f (q + 1) = x at *
              go_wp2_with fail
              go_ret
              exact RightPost.no rfl HF.out
          · obtain rfl : k = 0 := by omega
            have HN := Lib.hid (HX.out ⟨x0, x1, fun h => absurd h hp⟩)
            clear HX HY c2
            simp only [Nat.add_zero] at c1
            generalize f 0 = x at *
            go_wp2_with fail
            go_round
            case rel => exact ⟨1, by omega, by go_num, HN⟩
            case measure => simp [intOf]; omega
      · obtain rfl : k = L := by omega
        go_wp2_with fail
        go_ret
        exact RightPost.yes rfl (HR.out.2 hris.out)
theorem rank_bad (n : Int) (v : Value) (zs : List Int) (w : World) (h : Rd w v zs) (hr : ¬ RightP n zs) : Calls Try.prog 12 #[.int .i64 n, v] w fun e w' => w = w' ∧ e = .returned (.tuple #[.int .i64 0, .int .i64 1]) := by
  have H := Lib.hid (right_any n v zs w h)
  have HR := Lib.hid hr
  go_enter Try.func12, Try.ntmps12
  go_wp2_with fail
  refine H.out.mono ?_
  rintro e w' ⟨rfl, b, rfl, hb⟩
  obtain rfl : b = false := by
    cases b
    · rfl
    · exact absurd (hb.1 rfl) HR.out
  go_wp2_with fail
  go_ret2
  exact ⟨rfl, rfl⟩
set_option maxHeartbeats 800000 in
theorem rank_ok (n : Nat) (v : Value) (zs : List Int) (w : World) (h : Rd w v zs) (hr : RightP n zs) : Calls Try.prog 12 #[.int .i64 n, v] w fun e w' => Below w.heap.size w w' ∧ e = .returned (.tuple #[.int .i64 (rk zs : Nat), .int .i64 0]) := by
  have H := Lib.hid (right_any n v zs w h)
  have HR := Lib.hid hr
  have HB := Lib.hid (fun k hk => rkf_bd hr k hk)
  have HX : Hid (∀ i, i < zs.length → 0 ≤ zs.getD i 0 ∧ zs.getD i 0 < 61) := fun i hi => by
    obtain ⟨h1, h2, _⟩ := hr.2.2 i hi
    have h3 := hr.2.1
    have h4 : zs.getD i 0 < (n : Int) := h2
    exact ⟨h1, by omega⟩
  have HK : Hid (rk zs = rkf (fun i => zs.getD i 0) zs.length) := rfl
  have HS : Hid (∀ k, rkf (fun i => zs.getD i 0) (k + 1) = rkf (fun i => zs.getD i 0) k + pas (zs.getD k 0).toNat (k + 1)) := fun k => rfl
  clear hr
  obtain ⟨a, cap, rfl, hlc, hcm, hop⟩ := h.open
  clear h
  have HO := Lib.hid hop; clear hop
  go_enter Try.func12, Try.ntmps12
  go_wp2_with fail
  refine H.out.mono ?_
  rintro e w' ⟨rfl, b, rfl, hb⟩
  obtain rfl : b = true := hb.2 HR.out
  clear hb H
  go_wp2_with fail
  go_loopw [6, 15] (fun s i wr => ∃ k : Nat, k ≤ zs.length ∧ i = .int .i64 k ∧ s = .int .i64 (rkf (fun i => zs.getD i 0) k : Nat) ∧ Below w.heap.size w wr) (fun _ i _ => zs.length - (intOf i).toNat)
  case atStart => exact ⟨0, Nat.zero_le _, rfl, rfl, Below.refl _ _⟩
  case round =>
    obtain ⟨k, hk, rfl, rfl, hbel⟩ := hrel
    have b1 := HB.out k hk
    by_cases hlt : k < zs.length
    · obtain ⟨b, off, rfl, hb, hc⟩ := HO.out k hlt
      have c1 : wr.cell? ⟨b, off + k, none⟩ = some (.int .i64 (zs.getD k 0)) := (World.cell?_of_block (w := w) (hbel.block b hb)).trans (hc k hlt)
      clear hc
      have b2 := HB.out (k + 1) hlt
      have hs := HS.out k
      have HS2 := Lib.hid hs
      rw [hs] at b2
      obtain ⟨x0, x1⟩ := HX.out k hlt
      have H1 : Hid (∀ w, Calls Try.prog 17 #[.int .i64 (zs.getD k 0), .int .i64 ((k : Int) + 1)] w fun e w' => e = .returned (.int .i64 (pas (zs.getD k 0).toNat (k + 1) : Nat)) ∧ Below w.heap.size w w') := fun w => by
        have := of_p (zs.getD k 0).toNat (k + 1) (by omega) w
        rwa [show (((zs.getD k 0).toNat : Nat) : Int) = zs.getD k 0 by omega] at this
      clear hs
      generalize rkf (fun i => zs.getD i 0) k = s at *
      generalize pas (zs.getD k 0).toNat (k + 1) = y at *
      generalize zs.getD k 0 = x at *
      go_wp2_with fail
      refine (H1.out _).mono ?_
      rintro e w2 ⟨rfl, hb2⟩
      have s1 := hbel.size
      have HB2 := Lib.hid (hbel.trans (hb2.mono s1))
      clear hbel hb2 s1
      go_wp2_with fail
      go_roundw
      case rel => exact ⟨k + 1, by omega, by go_num, by rw [HS2.out]; rfl, HB2.out⟩
      case measure => simp [intOf]; omega
    · obtain rfl : k = zs.length := by omega
      have hk2 := HK.out
      rw [← hk2] at b1 ⊢
      clear hk2
      have HB2 := Lib.hid hbel
      clear hbel
      generalize hx : rk zs = x at *
      have HXX := Lib.hid hx; clear hx
      go_wp2_with fail
      go_ret2
      exact ⟨HB2.out, by rw [HXX.out]; rfl⟩
end Go.Proofs.Ytmiejokgjbnciaa
