/- The walk of LfsrMix. No condition. -/
import Derived.Test.YtfjeabfjghabhaaLfsrBackW
set_option linter.unusedSimpArgs false
set_option linter.unusedVariables false
namespace Go.Proofs.Ytfjeabfjghabhaa
open Go.RowKit
/-- Jump, wherever it ends. -/
theorem jump_any (n : Int) (t s : Nat) (b : Int) (w : World) : Calls Try.prog 8 #[.int .i64 n, .int .u32 t, .int .u32 s, .int .i64 b] w fun e w' => (∃ y f : Nat, e = .returned (.tuple #[.int .u32 y, .int .i64 f])) ∧ Below w.heap.size w w' := by
  by_cases h : OkT n t ∧ s / 2 ^ n.toNat = 0
  · obtain ⟨m, rfl⟩ := okn h.1
    have hs := lt_of_div h.2
    by_cases hb : b < 0 ∨ 1099511627776 < b
    · refine (jump_far m t s b h.1 hs hb w).mono ?_
      rintro e w' ⟨rfl, rfl⟩
      exact ⟨⟨0, 2, rfl⟩, Below.refl _ _⟩
    · obtain ⟨c, rfl⟩ : ∃ c : Nat, b = c := ⟨b.toNat, by omega⟩
      refine (jump_ok m t s c h.1 hs (by omega) w).mono ?_
      rintro e w' ⟨rfl, hb⟩
      exact ⟨⟨_, 0, rfl⟩, hb⟩
  · refine (jump_bad n t s b h w).mono ?_
    rintro e w' ⟨rfl, rfl⟩
    exact ⟨⟨0, 1, rfl⟩, Below.refl _ _⟩
end Go.Proofs.Ytfjeabfjghabhaa
namespace Go.Proofs.Ytfjeabfjghabhaa.lfsrMix
open Go.RowKit Go.Proofs.Ytfjeabfjghabhaa
set_option maxHeartbeats 800000 in
set_option maxRecDepth 20000 in
theorem walk_ok (n t a b c : Nat) (hk : OkT n t) (ha : a < 2 ^ n) (hb : b < 2 ^ n) (hc : c ≤ 1099511627776) (w : World) :
    Calls Try.prog 3 #[.int .i64 n, .int .u32 t, .int .u32 a, .int .u32 b, .int .i64 c] w fun e w' => e = .returned (.bool true) ∧ Below w.heap.size w w' := by
  have hx : a ^^^ b < 2 ^ n := Nat.xor_lt_two_pow ha hb
  have HA := Lib.hid (jump_ok n t a c hk ha hc)
  have HB := Lib.hid (jump_ok n t b c hk hb hc)
  have HC := Lib.hid (jump_ok n t (a ^^^ b) c hk hx hc)
  rw [it_xor] at HC
  have hP := hk.two.2.2.2.1
  have l1 := it_lt (t := t) ha c
  have l2 := it_lt (t := t) hb c
  have x1 := xor32 a b (by omega) (by omega)
  have x2 := xor32 (it n t c a) (it n t c b) (by omega) (by omega)
  clear l1 l2 hP ha hb hx hk
  generalize it n t c a = x at *
  generalize it n t c b = y at *
  generalize x ^^^ y = z at *
  generalize a ^^^ b = u at *
  go_enter Try.func3, Try.ntmps3
  go_wp2_with fail
  refine (alive_any _).mono ?_
  rintro e w1 ⟨rfl, hb⟩
  have H1 := Lib.hid hb
  clear hb
  go_wp2_with fail
  refine (HA.out _).mono ?_
  rintro e w2 ⟨rfl, hb⟩
  have H2 := Lib.hid (H1.out.trans (hb.mono H1.out.size))
  clear hb
  go_wp2_with fail
  refine (HB.out _).mono ?_
  rintro e w3 ⟨rfl, hb⟩
  have H3 := Lib.hid (H2.out.trans (hb.mono H2.out.size))
  clear hb
  go_wp2_with fail
  refine (HC.out _).mono ?_
  rintro e w4 ⟨rfl, hb⟩
  have H4 := Lib.hid (H3.out.trans (hb.mono H3.out.size))
  clear hb
  go_wp2_with fail
  go_ret
  exact ⟨by simp, H4.out⟩
set_option maxHeartbeats 800000 in
set_option maxRecDepth 20000 in
theorem walk (a0 a1 a2 a3 a4 : Int) (w : World) (w0 : (Lit.int .i64 a0).wf = true) (w1 : (Lit.int .u32 a1).wf = true) (w2 : (Lit.int .u32 a2).wf = true) (w3 : (Lit.int .u32 a3).wf = true) (w4 : (Lit.int .i64 a4).wf = true) :
    Calls Try.prog 3 #[.int .i64 a0, .int .u32 a1, .int .u32 a2, .int .u32 a3, .int .i64 a4] w fun e w' => e = .returned (.bool true) ∧ Below w.heap.size w w' := by
  obtain ⟨t, rfl, ht⟩ := of32 w1
  obtain ⟨a, rfl, ha⟩ := of32 w2
  obtain ⟨b, rfl, hb⟩ := of32 w3
  clear w1 w2 w3
  have x1 := xor32 a b ha hb
  by_cases hall : (OkT a0 t ∧ a / 2 ^ a0.toNat = 0) ∧ (OkT a0 t ∧ b / 2 ^ a0.toNat = 0) ∧ ¬ (a4 < 0 ∨ 1099511627776 < a4)
  · obtain ⟨⟨h1, h2⟩, ⟨_, h3⟩, h4⟩ := hall
    obtain ⟨n, rfl⟩ := okn h1
    obtain ⟨c, rfl⟩ : ∃ c : Nat, a4 = c := ⟨a4.toNat, by omega⟩
    exact walk_ok n t a b c h1 (lt_of_div h2) (lt_of_div h3) (by omega) w
  · -- one of the first two answers with what is wrong
    have HAB : Hid (∀ w, Calls Try.prog 8 #[.int .i64 a0, .int .u32 t, .int .u32 a, .int .i64 a4] w fun e w' => (∃ y f : Nat, e = .returned (.tuple #[.int .u32 y, .int .i64 f]) ∧ (f ≠ 0 ∨ f = 0 ∧ ∀ w, Calls Try.prog 8 #[.int .i64 a0, .int .u32 t, .int .u32 b, .int .i64 a4] w fun e w' => (∃ y f : Nat, e = .returned (.tuple #[.int .u32 y, .int .i64 f]) ∧ f ≠ 0) ∧ Below w.heap.size w w')) ∧ Below w.heap.size w w') := fun w => by
      by_cases hA : OkT a0 t ∧ a / 2 ^ a0.toNat = 0
      · obtain ⟨m, rfl⟩ := okn hA.1
        by_cases hb4 : a4 < 0 ∨ 1099511627776 < a4
        · refine (jump_far m t a a4 hA.1 (lt_of_div hA.2) hb4 w).mono ?_
          rintro e w' ⟨rfl, rfl⟩
          exact ⟨⟨0, 2, rfl, .inl (by omega)⟩, Below.refl _ _⟩
        · obtain ⟨c, rfl⟩ : ∃ c : Nat, a4 = c := ⟨a4.toNat, by omega⟩
          have hB : ¬ (OkT (m : Int) t ∧ b / 2 ^ (m : Int).toNat = 0) := fun hB => hall ⟨hA, hB, hb4⟩
          refine (jump_ok m t a c hA.1 (lt_of_div hA.2) (by omega) w).mono ?_
          rintro e w' ⟨rfl, hb⟩
          refine ⟨⟨_, 0, rfl, .inr ⟨rfl, fun w => ?_⟩⟩, hb⟩
          refine (jump_bad m t b c hB w).mono ?_
          rintro e w' ⟨rfl, rfl⟩
          exact ⟨⟨0, 1, rfl, by omega⟩, Below.refl _ _⟩
      · refine (jump_bad a0 t a a4 hA w).mono ?_
        rintro e w' ⟨rfl, rfl⟩
        exact ⟨⟨0, 1, rfl, .inl (by omega)⟩, Below.refl _ _⟩
    have HJ := Lib.hid (fun s w => jump_any a0 t s a4 w)
    clear hall
    generalize a ^^^ b = u at *
    go_enter Try.func3, Try.ntmps3
    go_wp2_with fail
    refine (alive_any _).mono ?_
    rintro e w1 ⟨rfl, hb⟩
    have H1 := Lib.hid hb
    clear hb
    go_wp2_with fail
    refine (HAB.out _).mono ?_
    rintro e w2 ⟨⟨y, f, rfl, hf⟩, hb⟩
    have H2 := Lib.hid (H1.out.trans (hb.mono H1.out.size))
    clear hb
    rcases hf with hf | ⟨rfl, hf⟩
    · have f1 : ((f : Int) == 0) = false := by rw [beq_eq_false_iff_ne]; omega
      go_wp2_with fail
      refine (HJ.out b _).mono ?_
      rintro e w3 ⟨⟨y3, f3, rfl⟩, hb⟩
      have H3 := Lib.hid (H2.out.trans (hb.mono H2.out.size))
      clear hb
      go_wp2_with fail
      refine (HJ.out u _).mono ?_
      rintro e w4 ⟨⟨y4, f4, rfl⟩, hb⟩
      have H4 := Lib.hid (H3.out.trans (hb.mono H3.out.size))
      clear hb
      go_wp2_with fail
      go_ret
      exact ⟨by simp, H4.out⟩
    · have HF := Lib.hid hf
      clear hf
      go_wp2_with fail
      refine (HF.out _).mono ?_
      rintro e w3 ⟨⟨y3, f3, rfl, hf3⟩, hb⟩
      have H3 := Lib.hid (H2.out.trans (hb.mono H2.out.size))
      clear hb
      have f1 : ((f3 : Int) == 0) = false := by rw [beq_eq_false_iff_ne]; omega
      go_wp2_with fail
      refine (HJ.out u _).mono ?_
      rintro e w4 ⟨⟨y4, f4, rfl⟩, hb⟩
      have H4 := Lib.hid (H3.out.trans (hb.mono H3.out.size))
      clear hb
      go_wp2_with fail
      go_ret
      exact ⟨by simp, H4.out⟩
end Go.Proofs.Ytfjeabfjghabhaa.lfsrMix
