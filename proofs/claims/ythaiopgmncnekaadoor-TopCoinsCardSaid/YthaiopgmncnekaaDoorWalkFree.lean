/- walk.free, wrong, Free, Above, Catalan, First in their range. No condition. -/
import Derived.Test.YthaiopgmncnekaaDoorWalkCombo
set_option linter.unusedSimpArgs false
set_option linter.unusedVariables false
namespace Go.Proofs.YthaiopgmncnekaaDoor.Walk
open Go.RowKit
def fr (n : Nat) (to : Int) : Nat := if ((n : Int) + to) % 2 ≠ 0 ∨ (n : Int) < to ∨ to < -(n : Int) then 0 else ofN n (((n : Int) + to) / 2).toNat
set_option maxRecDepth 20000 in
set_option maxHeartbeats 400000 in
theorem free_any (n : Nat) (hn : n ≤ 56) (to : Int) (h1 : -1000000 ≤ to) (h2 : to ≤ 1000000) (w : World) : Calls Tryd.prog 44 #[.int .i64 n, .int .i64 to] w fun e w' => e = .returned (.int .i64 (fr n to : Nat)) ∧ Below w.heap.size w w' := by
  by_cases hneg : to < -(n : Int)
  · have HF : Hid (fr n to = 0) := by show _ = _; rw [fr, if_pos (.inr (.inr hneg))]
    have h3 : ¬ (n : Int) < to := by omega
    by_cases hp : (((n : Int) + to).tmod 2 != 0) = true
    · go_enter Tryd.func44, Tryd.ntmps44
      go_wp2_with fail
      go_ret
      exact ⟨by rw [HF.out]; rfl, Below.refl _ _⟩
    · have hp' : (((n : Int) + to).tmod 2 != 0) = false := by simpa using hp
      clear hp
      go_enter Tryd.func44, Tryd.ntmps44
      go_wp2_with fail
      go_ret
      exact ⟨by rw [HF.out]; rfl, Below.refl _ _⟩
  · have h0 : 0 ≤ (n : Int) + to := by omega
    by_cases hp : ((n : Int) + to) % 2 = 0
    · have hp' : (((n : Int) + to) % 2 != 0) = false := by rw [hp]; rfl
      by_cases hbig : (n : Int) < to
      · have HF : Hid (fr n to = 0) := by show _ = _; rw [fr, if_pos (.inr (.inl hbig))]
        clear hp
        go_enter Tryd.func44, Tryd.ntmps44
        go_wp2_with fail
        go_ret
        exact ⟨by rw [HF.out]; rfl, Below.refl _ _⟩
      · have HF : Hid (fr n to = ofN n (((n : Int) + to) / 2).toNat) := by show _ = _; rw [fr, if_neg (by omega)]
        obtain ⟨m, hm⟩ : ∃ m : Nat, ((n : Int) + to) / 2 = (m : Int) := ⟨(((n : Int) + to) / 2).toNat, by omega⟩
        rw [hm] at HF
        simp only [Int.toNat_natCast] at HF
        have H := Lib.hid (fun w => Of_any n m (by omega) w)
        clear hp
        generalize ofN n m = o at *
        go_enter Tryd.func44, Tryd.ntmps44
        go_wp2_with fail
        refine (H.out _).mono ?_
        rintro e w' ⟨rfl, hb⟩
        go_wp2_with fail
        go_ret
        exact ⟨by rw [HF.out]; rfl, hb⟩
    · have hp' : (((n : Int) + to) % 2 != 0) = true := by rw [bne_iff_ne]; exact hp
      have HF : Hid (fr n to = 0) := by show _ = _; rw [fr, if_pos (.inl hp)]
      clear hp
      go_enter Tryd.func44, Tryd.ntmps44
      go_wp2_with fail
      go_ret
      exact ⟨by rw [HF.out]; rfl, Below.refl _ _⟩
set_option maxHeartbeats 400000 in
theorem wrong_no (n : Nat) (hn : n ≤ 56) (v : Value) (zs : List Int) (hz : ∀ x ∈ zs, -100 ≤ x ∧ x ≤ 100) (w : World) (h : Rd w v zs) : Calls Tryd.prog 43 #[.int .i64 n, v] w fun e w' => e = .returned (.bool false) ∧ w = w' := by
  obtain ⟨a, cap, rfl, hlc, hcm, hop⟩ := h.open
  clear h
  have HO := Lib.hid hop; clear hop
  have HZ := Lib.hid hz; clear hz
  go_enter Tryd.func43, Tryd.ntmps43
  go_wp2_with fail
  go_loop [15] (fun i => ∃ k : Nat, k ≤ zs.length ∧ i = .int .i64 k) (fun i => zs.length - (intOf i).toNat)
  case atStart => exact ⟨0, Nat.zero_le _, rfl⟩
  case round =>
    obtain ⟨k, hk, rfl⟩ := hrel
    by_cases hlt : k < zs.length
    · obtain ⟨b, off, rfl, hb, hc⟩ := HO.out k hlt
      have c1 := hc k hlt
      have hx := HZ.out (zs.getD k 0) (by rw [List.getD_eq_getElem?_getD, List.getElem?_eq_getElem hlt]; simp)
      obtain ⟨hx1, hx2⟩ := hx
      clear hc
      generalize zs.getD k 0 = x at *
      go_wp2_with fail
      go_round
      case rel => exact ⟨k + 1, by omega, by go_num⟩
      case measure => simp [intOf]; omega
    · obtain rfl : k = zs.length := by omega
      go_wp2_with fail
      go_ret
      exact ⟨rfl, rfl⟩
theorem Free_any (n : Nat) (hn : n ≤ 56) (to : Int) (h1 : -100 ≤ to) (h2 : to ≤ 100) (w : World) : Calls Tryd.prog 24 #[.int .i64 n, .int .i64 to] w fun e w' => e = .returned (.tuple #[.int .i64 (fr n to : Nat), .int .i64 0]) ∧ Below w.heap.size w w' := by
  have H := Lib.hid (fun w => free_any n hn to (by omega) (by omega) w)
  generalize fr n to = o at *
  go_enter Tryd.func24, Tryd.ntmps24
  go_wp2_with fail
  refine (wrong_no n hn _ [to] (by simp; omega) _ (Rd.built w [to] _ _ rfl 1 rfl (by decide))).mono ?_
  rintro e w' ⟨rfl, rfl⟩
  go_wp2_with fail
  refine (H.out _).mono ?_
  rintro e w' ⟨rfl, hb⟩
  go_wp2_with fail
  go_ret2
  exact ⟨rfl, ((Below.refl _ _).alloc (Nat.le_refl _) _).trans (hb.mono (by simp))⟩
def ab (n : Nat) (frm to : Int) : Int := (fr n (to - frm) : Int) - (fr n (to + frm) : Int)
theorem fr_le (n : Nat) (hn : n ≤ 56) (to : Int) : fr n to ≤ 200000000000000000 := by
  unfold fr
  split
  · omega
  · rename_i h
    unfold ofN
    split
    · omega
    · exact cf_small _ (by omega) _ (by omega) (by omega) (by omega)
end Go.Proofs.YthaiopgmncnekaaDoor.Walk
