/- bottom.All: the sketch of a list. No condition. -/
import Derived.Test.YticodfdonpookaaJoin
set_option linter.unusedSimpArgs false
set_option linter.unusedVariables false
set_option maxRecDepth 20000
namespace Go.Proofs.Yticodfdonpookaa
open Go.RowKit
/-- v reads as xs; nil is empty. -/
def RdN (w : World) (v : Value) (xs : List (BitVec 64)) : Prop := ∃ a n c, v = .slice a n c ∧ (a = none → n = 0 ∧ c = 0) ∧ xs.length = n ∧ Rd w (.slice a n c) (us xs)
theorem RdN.below {w w' : World} {B : Nat} {v : Value} {xs : List (BitVec 64)} (h : RdN w v xs) (hb : Below B w w') (hB : w.heap.size ≤ B) : RdN w' v xs := by
  obtain ⟨a, n, c, h1, h2, h3, h4⟩ := h
  exact ⟨a, n, c, h1, h2, h3, h4.below hb hB⟩
theorem sk_nil (s : BitVec 64) (r : Nat) : sk s r [] = [] := by simp [sk, dd]
theorem sk_step (s : BitVec 64) (r : Nat) (l : List (BitVec 64)) (k : Nat) (h : k < l.length) : sk s r (sk s r (l.take k) ++ [l.getD k 0#64]) = sk s r (l.take (k + 1)) := by
  rw [take_sU l k h, sk_congr r (l := [l.getD k 0#64] ++ sk s r (l.take k)) (by simp [or_comm]), sk_app, sk_congr r (l := l.take k ++ [l.getD k 0#64]) (by simp [or_comm])]
set_option maxHeartbeats 1600000 in
theorem all_any (s : BitVec 64) (room : Int) (v : Value) (xs : List (BitVec 64)) (w : World) (h : Rd w v (us xs)) (hr : 1 ≤ room ∧ room ≤ 400) :
    Calls Try.prog 9 #[.int .u64 (U s), .int .i64 room, v] w fun e w' => (∃ v', e = .returned (.tuple #[v', .int .i64 0]) ∧ RdN w' v' (sk s room.toNat xs)) ∧ Below w.heap.size w w' := by
  obtain ⟨a, cap, rfl, hlc, hcm, hop⟩ := h.open
  obtain ⟨n, hn⟩ : ∃ n, xs.length = n := ⟨_, rfl⟩
  rw [us_len, hn] at hop hlc ⊢
  have hnm : n ≤ 9223372036854775807 := by omega
  clear hlc hcm
  have HN := Lib.hid hn
  have HOP := Lib.hid hop
  have HRR := Lib.hid hr
  have t1 : decide (room < 1) = false := decide_eq_false (by omega)
  have t2 : decide ((400 : Int) < room) = false := decide_eq_false (by omega)
  clear h hop hn hr
  go_enter Try.func9, Try.ntmps9
  go_wp2_with fail
  clear t1 t2
  go_loopw [21, 8] (fun iv ov wr => ∃ k : Nat, k ≤ n ∧ iv = .int .i64 k ∧ Hid (RdN wr ov (sk s room.toNat (xs.take k))) ∧ Hid (Below w.heap.size w wr)) (fun iv _ _ => n - (intOf iv).toNat)
  case atStart => exact ⟨0, Nat.zero_le _, rfl, ⟨none, 0, 0, rfl, fun _ => ⟨rfl, rfl⟩, by rw [List.take_zero, sk_nil]; rfl, by rw [List.take_zero, sk_nil]; exact Rd.nil w⟩, Below.refl _ _⟩
  case round =>
    obtain ⟨k, hk, rfl, HO, HB⟩ := hrel
    obtain ⟨ao, no, co, rfl, hno, hlo, hro⟩ := HO.out
    by_cases hkn : k < n
    · obtain ⟨b, off, rfl, hb, hc⟩ := HOP.out k hkn
      have c1 : wr.cell? ⟨b, off + k, none⟩ = some (.int .u64 (U (xs.getD k 0#64))) := by rw [← us_get]; exact (World.cell?_of_block (HB.out.block b hb)).trans (hc k hkn)
      have hst := sk_step s room.toNat xs k (by rw [HN.out]; exact hkn)
      obtain ⟨x, hx⟩ : ∃ x, xs.getD k 0#64 = x := ⟨_, rfl⟩
      rw [hx] at c1 hst
      have hb1 : Below wr.heap.size wr (wr.alloc (.cells #[.int .u64 (U x)] 22)) := (Below.refl _ _).alloc (Nat.le_refl _) _
      have hrr := HRR.out
      have hsl := sk_len s room.toNat (xs.take k)
      have HC : Hid (Calls Try.prog 11 #[.int .u64 (U s), .int .i64 room, .slice ao no co, .slice (some ⟨wr.heap.size, 0, none⟩) 1 1] (wr.alloc (.cells #[.int .u64 (U x)] 22)) fun e w' => (∃ g k', e = .returned (.tuple #[.slice (some ⟨g, 0, none⟩) k' k', .int .i64 0]) ∧ Rd w' (.slice (some ⟨g, 0, none⟩) k' k') (us (sk s room.toNat (xs.take (k + 1))))) ∧ Below wr.heap.size wr w') := by
        refine (join_any s room ao (some ⟨wr.heap.size, 0, none⟩) no co 1 1 (sk s room.toNat (xs.take k)) [x] _ (hro.below hb1 (Nat.le_refl _)) (Rd.built wr (us [x]) _ 22 rfl 1 rfl (by decide)) hno (fun h => by cases h) hrr (by omega) (by simp; omega) (sk_asc s _ _) (List.pairwise_singleton _ _) (by omega)).mono ?_
        rintro e w' ⟨⟨g, k', rfl, h5⟩, h6⟩
        rw [hst] at h5
        exact ⟨⟨g, k', rfl, h5⟩, hb1.trans (h6.mono (by simp))⟩
      clear hc hst hx hb hb1 hrr hsl hno hlo hro HO
      generalize hux : U x = ux at *
      clear hux
      go_wp2_with fail
      refine HC.out.mono ?_
      rintro e w5 ⟨⟨g, k', rfl, h5⟩, h6⟩
      have HB5 := Lib.hid (HB.out.trans (h6.mono HB.out.size))
      have hlen : (sk s room.toNat (xs.take (k + 1))).length = k' := by
        obtain ⟨_, _, he, -⟩ := h5.open
        injection he with _ q5 _
        rw [us_len] at q5
        exact q5.symm
      have HRN : Hid (RdN w5 (.slice (some ⟨g, 0, none⟩) k' k') (sk s room.toNat (xs.take (k + 1)))) := ⟨_, k', k', rfl, (fun h => by cases h), hlen, h5⟩
      clear h5 h6 HC HB hlen
      go_wp2_with fail
      go_roundw
      case rel => exact ⟨k + 1, by omega, by go_num, HRN.out, HB5.out⟩
      case measure => simp [intOf]; omega
    · obtain rfl : n = k := by omega
      have hf := HO.out
      rw [List.take_of_length_le (by rw [HN.out]; exact Nat.le_refl _)] at hf
      have HF := Lib.hid hf
      clear hf hno hlo hro HO
      go_wp2_with fail
      go_ret2
      exact ⟨⟨_, rfl, HF.out⟩, HB.out⟩
theorem all_bad (s : BitVec 64) (room : Int) (v : Value) (xs : List (BitVec 64)) (w : World) (h : Rd w v (us xs)) (hr : ¬ (1 ≤ room ∧ room ≤ 400)) :
    Calls Try.prog 9 #[.int .u64 (U s), .int .i64 room, v] w fun e w' => e = .returned (.tuple #[.slice none 0 0, .int .i64 2]) ∧ w' = w := by
  obtain ⟨a, cap, rfl, -⟩ := h.open
  by_cases h1 : room < 1
  · have t1 : decide (room < 1) = true := decide_eq_true h1
    clear h hr h1
    go_enter Try.func9, Try.ntmps9
    go_wp2_with fail
    go_ret2
    exact ⟨rfl, rfl⟩
  · have t1 : decide (room < 1) = false := decide_eq_false h1
    have t2 : decide ((400 : Int) < room) = true := decide_eq_true (by omega)
    clear h hr h1
    go_enter Try.func9, Try.ntmps9
    go_wp2_with fail
    go_ret2
    exact ⟨rfl, rfl⟩
end Go.Proofs.Yticodfdonpookaa
