/- drop.One: what it answers. Condition: a row within the reach. -/
import Derived.Test.YtkmjjckpolopgaaHv
set_option linter.unusedSimpArgs false
set_option linter.unusedVariables false
namespace Go.Proofs.Ytkmjjckpolopgaa
open Go.RowKit
def oneF (N D : Int) : List Int → Nat → Int → Option Nat
  | [], _, _ => none
  | x :: l, i, d => if 0 < N - x * D then (if d < N - x * D then some i else oneF N D l (i + 1) (d - (N - x * D))) else oneF N D l (i + 1) d
def oneV : Option Nat → Value
  | some k => .tuple #[.int .i64 (k : Int), .int .i64 0]
  | none => .tuple #[.int .i64 0, .int .i64 3]
set_option maxHeartbeats 1600000 in
theorem one_any (v : Value) (zs : List Int) (d : Int) (w : World) (h : Rd w v zs) (hok : OkD zs (zs.length - 1)) (hd : 0 ≤ d ∧ d ≤ 1099511627776) :
    Calls Try.prog 11 #[v, .int .i64 d] w fun e w' => e = .returned (oneV (oneF (lev zs (zs.length - 1)).1 (lev zs (zs.length - 1)).2 zs 0 d)) ∧ Below w.heap.size w w' := by
  have HL := Lib.hid (lev_many_any v zs _ w h hok (by omega))
  obtain ⟨a1, a2, a3, a4, -⟩ := lev_law hok (by omega)
  obtain ⟨h1, h2, h3, h4⟩ := hok
  obtain ⟨a, cap, rfl, -, -, hop⟩ := h.open
  obtain ⟨n, hn⟩ : ∃ n, zs.length = n := ⟨_, rfl⟩
  rw [hn] at hop h1 h2 h3 HL a1 a2 a3 a4 ⊢
  obtain ⟨m, hm⟩ : ∃ m : Int, (n : Int) - 1 = m := ⟨_, rfl⟩
  rw [hm] at HL a1 a2 a3 a4 h2 h3 ⊢
  have q0 : IntKind.i64.wrap ((n : Int) - 1) = m := by rw [IntKind.wrap_i64]; omega
  generalize (lev zs m).1 = N at *
  generalize (lev zs m).2 = D at *
  have HN := Lib.hid hn
  have HW := Lib.hid h4
  have HOP := Lib.hid hop
  have hD4 : D ≤ 400 := by omega
  obtain ⟨F, hF⟩ : ∃ F, oneF N D zs 0 d = F := ⟨_, rfl⟩
  have HF := Lib.hid hF
  rw [hF]
  have t0 : decide (d < 0) = false := decide_eq_false (by omega)
  obtain ⟨hd0, hd1⟩ := hd
  unfold fr at HL
  clear h hop hn h4 hF hm h2 h3 a4
  go_enter Try.func11, Try.ntmps11
  go_wp2_with fail
  refine HL.out.mono ?_
  rintro e w1 ⟨rfl, hb1⟩
  obtain ⟨w2, hw2⟩ : ∃ w2, w1.alloc (.cells #[.int .i64 N, .int .i64 D] 25) = w2 := ⟨_, rfl⟩
  have HB2 : Hid (Below w.heap.size w w2) := by show Below _ _ _; rw [← hw2]; exact hb1.alloc hb1.size _
  have HK := Lib.hid (kept2 hw2)
  have HW2 := Lib.hid hw2
  clear hb1 HL hw2
  go_wp2_with fail
  rw [HW2.out]
  obtain ⟨B1, hB1⟩ : ∃ B, w1.heap.size = B := ⟨_, rfl⟩
  rw [hB1] at HK ⊢
  clear HW2 hB1
  go_wp2_with fail
  clear q0 t0
  go_loopw [28, 1] (fun iv dv wr => ∃ (k : Nat) (d : Int), k ≤ n ∧ 0 ≤ d ∧ d ≤ 1099511627776 ∧ iv = .int .i64 k ∧ dv = .int .i64 d ∧ Hid (oneF N D (zs.drop k) k d = F) ∧ Hid (∃ q, wr = w2.drewN q)) (fun iv _ _ => n - (intOf iv).toNat)
  case atStart => exact ⟨0, d, Nat.zero_le _, hd0, hd1, rfl, rfl, HF.out, ⟨0, rfl⟩⟩
  case round =>
    clear HF hd0 hd1
    obtain ⟨k, d, hk, hd0, hd1, rfl, rfl, HF, HWR⟩ := hrel
    obtain ⟨q, hq⟩ := HWR.out
    subst hq
    by_cases hkn : k < n
    · obtain ⟨b, off, rfl, hb, hc⟩ := HOP.out k hkn
      have c1 : (w2.drewN q).cell? ⟨b, off + k, none⟩ = some (.int .i64 (zs.getD k 0)) := (World.cell?_of_block (HB2.out.block b hb)).trans (hc k hkn)
      obtain ⟨c2, c3⟩ := HK.out (w2.drewN q) ((Below.refl _ _).drewN q)
      have hx := HW.out _ (getD_memI zs k (by rw [HN.out]; exact hkn))
      have hF := HF.out
      rw [drop_s zs k (by rw [HN.out]; exact hkn)] at hF
      unfold oneF at hF
      clear hc HF
      generalize zs.getD k 0 = x at *
      obtain ⟨xd, hxd⟩ : ∃ z, x * D = z := ⟨_, rfl⟩
      have hxb : 0 ≤ x * D ∧ x * D ≤ 1048576 * 400 := ⟨Int.mul_nonneg (by omega) (by omega), Int.mul_le_mul (by omega) (by omega) (by omega) (by omega)⟩
      rw [hxd] at hxb hF
      obtain ⟨pt, hpt⟩ : ∃ z, N - xd = z := ⟨_, rfl⟩
      rw [hpt] at hF
      have y1 : IntKind.i64.wrap (x * D) = xd := by rw [IntKind.wrap_i64, hxd]; omega
      have y2 : IntKind.i64.wrap (N - xd) = pt := by rw [IntKind.wrap_i64, hpt]; omega
      have hptb : pt ≤ 419430400 := by omega
      clear hx hxd hxb hpt hb
      by_cases g1 : 0 < pt
      · have t1 : decide (0 < pt) = true := decide_eq_true g1
        rw [if_pos g1] at hF
        by_cases g2 : d < pt
        · have t2 : decide (d < pt) = true := decide_eq_true g2
          rw [if_pos g2] at hF
          have HFF := Lib.hid hF
          clear hF g1 g2
          go_wp2_with fail
          go_ret2
          exact ⟨by rw [← HFF.out]; rfl, HB2.out.drewN _⟩
        · have t2 : decide (d < pt) = false := decide_eq_false g2
          rw [if_neg g2] at hF
          obtain ⟨d', hd'⟩ : ∃ z, d - pt = z := ⟨_, rfl⟩
          have y3 : IntKind.i64.wrap (d - pt) = d' := by rw [IntKind.wrap_i64]; omega
          rw [hd'] at hF
          have HFF := Lib.hid hF
          have hd0' : 0 ≤ d' ∧ d' ≤ 1099511627776 := by omega
          clear hF g1 g2 hd'
          go_wp2_with fail
          go_roundw
          case rel => exact ⟨k + 1, d', by omega, hd0'.1, hd0'.2, by go_num, rfl, HFF.out, ⟨_, rfl⟩⟩
          case measure => simp [intOf]; omega
      · have t1 : decide (0 < pt) = false := decide_eq_false g1
        rw [if_neg g1] at hF
        have HFF := Lib.hid hF
        clear hF g1
        go_wp2_with fail
        go_roundw
        case rel => exact ⟨k + 1, d, by omega, hd0, hd1, by go_num, rfl, HFF.out, ⟨_, rfl⟩⟩
        case measure => simp [intOf]; omega
    · obtain rfl : k = n := by omega
      have hF := HF.out
      rw [List.drop_of_length_le (by rw [HN.out]; exact Nat.le_refl _)] at hF
      have HFF := Lib.hid hF
      clear HF hF
      go_wp2_with fail
      go_ret2
      exact ⟨by rw [← HFF.out]; rfl, HB2.out.drewN _⟩
end Go.Proofs.Ytkmjjckpolopgaa
