/- Walk of pps.Sum. No condition. -/
import Derived.Test.YthkbcgafpaomnaaDef
import Derived.Test.YthkbcgafpaomnaaGen
set_option linter.unusedSimpArgs false
set_option linter.unusedVariables false
namespace Go.Proofs.Ythkbcgafpaomnaa
open Go.RowKit
def SumPost (zs : List Int) (many : Int) (w : World) (e : Ending) (w' : World) : Prop :=
  ∃ s c : Int, e = .returned (.tuple #[.int .i64 s, .int .i64 c]) ∧ w = w' ∧ (Good zs many → s = zs.sum ∧ c = 0) ∧ (¬ Good zs many → s = 0 ∧ 0 < c)
set_option maxHeartbeats 400000 in
theorem sum_any (v : Value) (zs : List Int) (many : Int) (w : World) (h : Rd w v zs) : Calls Try.prog 9 #[v, .int .i64 many] w (SumPost zs many w) := by
  obtain ⟨a, cap, rfl, hlc, hcm, hop⟩ := h.open
  clear h
  have HO := Lib.hid hop; clear hop
  have HZ := Lib.hid (rfl : zs.length = zs.length)
  generalize hn : zs.length = n at *
  clear HZ
  have HN := Lib.hid hn; clear hn
  by_cases hr : n ≤ 400 ∧ 1 ≤ many ∧ many ≤ 400
  · obtain ⟨r1, r2, r3⟩ := hr
    have t1 : ¬ (400 : Int) < (n : Int) := by omega
    go_enter Try.func9, Try.ntmps9
    go_wp2_with fail
    go_loop [6, 22] (fun s i => ∃ k : Nat, k ≤ n ∧ i = .int .i64 k ∧ s = .int .i64 (zs.take k).sum ∧ Hid (∀ x ∈ zs.take k, 0 ≤ x ∧ x ≤ 1048576)) (fun _ i => n - (intOf i).toNat)
    case atStart => exact ⟨0, Nat.zero_le _, rfl, rfl, fun x hx => by simp at hx⟩
    case round =>
      obtain ⟨k, hk, rfl, rfl, hok⟩ := hrel
      have hbd := sum_take_bd zs k (by omega) hok.out
      by_cases hlt : k < n
      · obtain ⟨b, off, rfl, hb, hc⟩ := HO.out k hlt
        have c1 := hc k hlt
        have hts := take_sum_succ zs k (by rw [HN.out]; exact hlt)
        have HT := Lib.hid hts; clear hts
        clear hc
        by_cases hb1 : 0 ≤ zs.getD k 0 ∧ zs.getD k 0 ≤ 1048576
        · obtain ⟨hb1, hb2⟩ := hb1
          have HS := Lib.hid (take_ok_succ zs k (by rw [HN.out]; exact hlt) hok.out ⟨hb1, hb2⟩)
          generalize zs.getD k 0 = x at *
          go_wp2_with fail
          go_round
          case rel => exact ⟨k + 1, by omega, by go_num, by rw [HT.out], HS⟩
          case measure => simp [intOf]; omega
        · have HG : Hid (¬ Good zs many) := fun hg => hb1 (hg.2.2.2.1 _ (getD_mem zs k (by rw [HN.out]; exact hlt)))
          generalize zs.getD k 0 = x at *
          by_cases hneg : x < 0
          all_goals
            go_wp2_with fail
            go_ret2
            exact ⟨_, _, rfl, rfl, fun hg => absurd hg HG.out, fun _ => ⟨rfl, by decide⟩⟩
      · obtain rfl : k = n := by omega
        have hall : zs.take k = zs := by rw [← HN.out]; exact List.take_length
        have HA := Lib.hid hall; clear hall
        have HOK := Lib.hid hok.out
        by_cases hs : (zs.take k).sum = 0
        · have HG : Hid (¬ Good zs many) := fun hg => hg.2.2.2.2 (by rw [← HA.out]; exact hs)
          have hs' : ((zs.take k).sum == 0) = true := by simpa using hs
          clear hs
          generalize (zs.take k).sum = x at *
          go_wp2_with fail
          go_ret2
          exact ⟨_, _, rfl, rfl, fun hg => absurd hg HG.out, fun _ => ⟨rfl, by decide⟩⟩
        · have HG : Hid (Good zs many) := ⟨by rw [HN.out]; exact r1, r2, r3, by have := hok.out; rw [HA.out] at this; exact this, by rw [← HA.out]; exact hs⟩
          have hs' : ((zs.take k).sum == 0) = false := by simpa using hs
          clear hs
          have HE : Hid ((zs.take k).sum = zs.sum) := by show _ = _; rw [HA.out]
          generalize (zs.take k).sum = x at *
          go_wp2_with fail
          go_ret2
          exact ⟨_, _, rfl, rfl, fun _ => ⟨HE.out, rfl⟩, fun hg => absurd HG.out hg⟩
  · have HG : Hid (¬ Good zs many) := fun hg => hr ⟨by rw [← HN.out]; exact hg.1, hg.2.1, hg.2.2.1⟩
    by_cases t1 : (400 : Int) < (n : Int)
    · go_enter Try.func9, Try.ntmps9
      go_wp2_with fail
      go_ret2
      exact ⟨_, _, rfl, rfl, fun hg => absurd hg HG.out, fun _ => ⟨rfl, by decide⟩⟩
    · by_cases t2 : many < 1
      · go_enter Try.func9, Try.ntmps9
        go_wp2_with fail
        go_ret2
        exact ⟨_, _, rfl, rfl, fun hg => absurd hg HG.out, fun _ => ⟨rfl, by decide⟩⟩
      · have t3 : 400 < many := by omega
        go_enter Try.func9, Try.ntmps9
        go_wp2_with fail
        go_ret2
        exact ⟨_, _, rfl, rfl, fun hg => absurd hg HG.out, fun _ => ⟨rfl, by decide⟩⟩
end Go.Proofs.Ythkbcgafpaomnaa
