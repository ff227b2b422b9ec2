/- ruin.Play: what it answers, of every tape. No condition. -/
import Derived.Test.YtkppkfbgolmonaaBl
set_option linter.unusedSimpArgs false
set_option linter.unusedVariables false
namespace Go.Proofs.Ytkppkfbgolmonaa
open Go.RowKit
def pos (has : Int) (bs : List Bool) : Nat → Int
  | 0 => has
  | k + 1 => pos has bs k + if bs.getD k false then 1 else -1
/-- Still between. -/
def Btw (top has : Int) (bs : List Bool) (n : Nat) : Prop := ∀ j, j < n → pos has bs j ≠ 0 ∧ pos has bs j ≠ top
def OkP (top has : Int) : Prop := 1 ≤ top ∧ top ≤ 400 ∧ 0 ≤ has ∧ has ≤ top
def PlayPost (top has : Int) (bs : List Bool) (w : World) (e : Ending) (w' : World) : Prop :=
  w = w' ∧ ((OkP top has ∧ ∃ n : Nat, n ≤ bs.length ∧ Btw top has bs n ∧ (pos has bs n = 0 ∨ pos has bs n = top) ∧ e = .returned (.tuple #[.int .i64 (pos has bs n), .int .i64 n, .int .i64 0])) ∨
    (OkP top has ∧ Btw top has bs (bs.length + 1) ∧ e = .returned (.tuple #[.int .i64 0, .int .i64 0, .int .i64 7])) ∨
    (¬ OkP top has ∧ e = .returned (.tuple #[.int .i64 0, .int .i64 0, .int .i64 2])))
theorem pos_in {top has : Int} {bs : List Bool} (h : OkP top has) : ∀ n, Btw top has bs n → 0 ≤ pos has bs n ∧ pos has bs n ≤ top := by
  intro n
  induction n with
  | zero => intro _; exact ⟨h.2.2.1, h.2.2.2⟩
  | succ n ih =>
    intro hb
    have h1 := ih (fun j hj => hb j (by omega))
    have h2 := hb n (by omega)
    rw [pos]; split <;> omega
theorem Btw.succ {top has : Int} {bs : List Bool} {n : Nat} (h : Btw top has bs n) (h1 : pos has bs n ≠ 0) (h2 : pos has bs n ≠ top) : Btw top has bs (n + 1) := fun j hj => by
  rcases Nat.lt_or_ge j n with hlt | hge
  · exact h j hlt
  · obtain rfl : j = n := by omega
    exact ⟨h1, h2⟩
theorem play_bad (top has : Int) (v : Value) (bs : List Bool) (w : World) (h : ¬ OkP top has) : Calls Try.prog 12 #[.int .i64 top, .int .i64 has, v] w (PlayPost top has bs w) := by
  have HB : Hid (¬ OkP top has) := h
  have h' : top < 1 ∨ 400 < top ∨ has < 0 ∨ top < has := by unfold OkP at h; omega
  clear h
  rcases h' with h | h | h | h
  all_goals
    go_enter Try.func12, Try.ntmps12
    go_wp2_with fail
    all_goals
      go_ret3
      exact ⟨rfl, .inr (.inr ⟨HB.out, rfl⟩)⟩
set_option maxHeartbeats 800000 in
theorem play_ok (top has : Int) (v : Value) (bs : List Bool) (w : World) (h : RdB w v bs) (hp : OkP top has) : Calls Try.prog 12 #[.int .i64 top, .int .i64 has, v] w (PlayPost top has bs w) := by
  have HP := Lib.hid (fun n hb => pos_in (bs := bs) hp n hb)
  have HO := Lib.hid hp
  obtain ⟨p1, p2, p3, p4⟩ := hp
  obtain ⟨a, cap, rfl, hlc, hcm, hop⟩ := h.open
  clear h
  have HR := Lib.hid hop; clear hop
  have HS := Lib.hid (fun n => (show pos has bs (n + 1) = pos has bs n + if bs.getD n false then 1 else -1 from rfl))
  have H0 : Hid (pos has bs 0 = has) := rfl
  go_enter Try.func12, Try.ntmps12
  go_wp2_with fail
  go_loop [1, 28] (fun hv iv => ∃ n : Nat, n ≤ bs.length ∧ iv = .int .i64 n ∧ hv = .int .i64 (pos has bs n) ∧ Hid (Btw top has bs n)) (fun _ iv => bs.length - (intOf iv).toNat)
  case atStart => exact ⟨0, Nat.zero_le _, rfl, by rw [H0.out], fun j hj => by omega⟩
  case round =>
    obtain ⟨n, hn, rfl, rfl, hbt⟩ := hrel
    obtain ⟨q1, q2⟩ := HP.out n hbt.out
    by_cases hend : pos has bs n = 0 ∨ pos has bs n = top
    · have HE : Hid (pos has bs n = 0 ∨ pos has bs n = top) := hend
      have HX : Hid (∀ e, e = Ending.returned (.tuple #[.int .i64 (pos has bs n), .int .i64 n, .int .i64 0]) → PlayPost top has bs w e w) := fun e he =>
        ⟨rfl, .inl ⟨HO.out, n, hn, hbt.out, HE.out, he⟩⟩
      by_cases hlt : n < bs.length
      · obtain ⟨b, off, rfl, hb, hc⟩ := HR.out n hlt
        have c1 := hc n hlt
        clear hc HS H0 HE
        generalize pos has bs n = x at *
        generalize bs.getD n false = y at *
        rcases hend with h | h
        · subst h
          go_wp2_with fail
          go_ret3
          exact HX.out _ rfl
        · subst h
          have hs : (x == x) = true := by simp
          by_cases h0 : x = 0
          · omega
          · have h1 : (x == 0) = false := by simpa using h0
            go_wp2_with fail
            go_ret3
            exact HX.out _ rfl
      · obtain rfl : n = bs.length := by omega
        clear HS H0 HE
        generalize pos has bs bs.length = x at *
        rcases hend with h | h
        · subst h
          go_wp2_with fail
          go_ret3
          exact HX.out _ rfl
        · subst h
          have hs : (x == x) = true := by simp
          by_cases h0 : x = 0
          · omega
          · have h1 : (x == 0) = false := by simpa using h0
            go_wp2_with fail
            go_ret3
            exact HX.out _ rfl
    · have h0 : pos has bs n ≠ 0 := fun h => hend (.inl h)
      have h1 : pos has bs n ≠ top := fun h => hend (.inr h)
      have HB2 := Lib.hid (hbt.out.succ h0 h1)
      have e0 : (pos has bs n == 0) = false := by simpa using h0
      have e1 : (pos has bs n == top) = false := by simpa using h1
      clear hend
      by_cases hlt : n < bs.length
      · obtain ⟨b, off, rfl, hb, hc⟩ := HR.out n hlt
        have c1 := hc n hlt
        have hs := HS.out n
        clear hc
        cases hy : bs.getD n false
        · rw [hy] at hs c1
          have HS2 := Lib.hid hs
          clear hs
          generalize pos has bs n = x at *
          go_wp2_with fail
          go_round
          case rel => exact ⟨n + 1, by omega, by go_num, by rw [HS2.out]; simp; omega, HB2.out⟩
          case measure => simp [intOf]; omega
        · rw [hy] at hs c1
          have HS2 := Lib.hid hs
          clear hs
          generalize pos has bs n = x at *
          go_wp2_with fail
          go_round
          case rel => exact ⟨n + 1, by omega, by go_num, by rw [HS2.out]; simp, HB2.out⟩
          case measure => simp [intOf]; omega
      · obtain rfl : n = bs.length := by omega
        have HX : Hid (∀ e, e = Ending.returned (.tuple #[.int .i64 0, .int .i64 0, .int .i64 7]) → PlayPost top has bs w e w) := fun e he =>
          ⟨rfl, .inr (.inl ⟨HO.out, HB2.out, he⟩)⟩
        generalize pos has bs bs.length = x at *
        go_wp2_with fail
        go_ret3
        exact HX.out _ rfl
theorem play_any (top has : Int) (v : Value) (bs : List Bool) (w : World) (h : RdB w v bs) : Calls Try.prog 12 #[.int .i64 top, .int .i64 has, v] w (PlayPost top has bs w) := by
  by_cases hp : OkP top has
  · exact play_ok top has v bs w h hp
  · exact play_bad top has v bs w hp
end Go.Proofs.Ytkppkfbgolmonaa
