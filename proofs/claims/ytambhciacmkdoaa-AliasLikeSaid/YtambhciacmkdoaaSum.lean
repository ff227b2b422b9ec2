/- alias.Sum: what it answers. No condition. -/
import Derived.Test.YtambhciacmkdoaaDef
set_option linter.unusedSimpArgs false
set_option linter.unusedVariables false
namespace Go.Proofs.Ytambhciacmkdoaa
open Go.RowKit
/-- The sum over all below k. -/
def tot (g : Nat → Nat) : Nat → Nat
  | 0 => 0
  | k + 1 => tot g k + g k
theorem tot_congr {f g : Nat → Nat} : ∀ {k : Nat}, (∀ i, i < k → f i = g i) → tot f k = tot g k
  | 0, _ => rfl
  | k + 1, h => by rw [tot, tot, tot_congr (fun i hi => h i (by omega)), h k (by omega)]
theorem tot_le {f : Nat → Nat} {c : Nat} : ∀ {k : Nat}, (∀ i, i < k → f i ≤ c) → tot f k ≤ k * c
  | 0, _ => Nat.zero_le _
  | k + 1, h => by
    have h1 := tot_le (k := k) (fun i hi => h i (by omega))
    have h2 := h k (by omega)
    rw [tot, Nat.add_mul, Nat.one_mul]; omega
def OkW (zs : List Int) : Prop := 1 ≤ zs.length ∧ zs.length ≤ 400 ∧ ∀ i, i < zs.length → 0 ≤ zs.getD i 0 ∧ zs.getD i 0 ≤ 1048576
instance (zs : List Int) : Decidable (OkW zs) := by unfold OkW; infer_instance
theorem OkW.nd {zs : List Int} (h : OkW zs) {i : Nat} (hi : i < zs.length) : zs.getD i 0 = (nd zs i : Int) := by
  have := h.2.2 i hi; unfold Ytambhciacmkdoaa.nd; omega
theorem OkW.le {zs : List Int} (h : OkW zs) (i : Nat) : Ytambhciacmkdoaa.nd zs i ≤ 1048576 := by
  by_cases hi : i < zs.length
  · have := h.2.2 i hi; unfold Ytambhciacmkdoaa.nd; omega
  · rw [nd_out (by omega)]; omega
/-- What Sum answers: the sum, and what is wrong. -/
def smV (zs : List Int) : Nat := if OkW zs then tot (nd zs) zs.length else 0
def smE (zs : List Int) : Nat := if OkW zs then (if tot (nd zs) zs.length = 0 then 3 else 0) else 2
set_option maxHeartbeats 1600000 in
theorem sum_any (v : Value) (zs : List Int) (w : World) (h : Rd w v zs) : Calls Try.prog 8 #[v] w fun e w' => e = .returned (.tuple #[.int .i64 (smV zs : Nat), .int .i64 (smE zs : Nat)]) ∧ w' = w := by
  obtain ⟨a, cap, rfl, hlc, hcm, hop⟩ := h.open
  have HOP := Lib.hid hop
  clear h hop
  by_cases hl : 1 ≤ zs.length ∧ zs.length ≤ 400
  · obtain ⟨hl1, hl2⟩ := hl
    have HN : Hid (¬ (∀ i, i < zs.length → 0 ≤ zs.getD i 0 ∧ zs.getD i 0 ≤ 1048576) → smV zs = 0 ∧ smE zs = 2) := fun h => by
      have : ¬ OkW zs := fun h' => h h'.2.2
      unfold smV smE; rw [if_neg this, if_neg this]; exact ⟨rfl, rfl⟩
    have HY : Hid ((∀ i, i < zs.length → 0 ≤ zs.getD i 0 ∧ zs.getD i 0 ≤ 1048576) → smV zs = tot (nd zs) zs.length ∧ smE zs = if tot (nd zs) zs.length = 0 then 3 else 0) := fun h => by
      have : OkW zs := ⟨hl1, hl2, h⟩
      unfold smV smE; rw [if_pos this, if_pos this]; exact ⟨rfl, rfl⟩
    generalize smV zs = sv at *
    generalize smE zs = se at *
    generalize zs.length = n at *
    go_enter Try.func8, Try.ntmps8
    go_wp2_with fail
    go_loop [17, 4, 6] (fun iv sv _ => ∃ i : Nat, i ≤ n ∧ iv = .int .i64 i ∧ sv = .int .i64 (tot (nd zs) i : Nat) ∧ Hid (∀ k, k < i → 0 ≤ zs.getD k 0 ∧ zs.getD k 0 ≤ 1048576) ∧ tot (nd zs) i ≤ i * 1048576) (fun iv _ _ => n - (intOf iv).toNat)
    case atStart => exact ⟨0, Nat.zero_le _, rfl, rfl, fun k hk => absurd hk (Nat.not_lt_zero k), Nat.zero_le _⟩
    case round =>
      obtain ⟨i, hi, rfl, rfl, hall, htl⟩ := hrel
      by_cases hlt : i < n
      · obtain ⟨b, off, rfl, hb, hc⟩ := HOP.out i hlt
        have cx := hc i hlt
        obtain ⟨x, hx⟩ : ∃ x, zs.getD i 0 = x := ⟨_, rfl⟩
        rw [hx] at cx
        have HX := Lib.hid hx
        clear hc hx
        by_cases k1 : x < 0
        · have f1 : decide (x < 0) = true := decide_eq_true k1
          obtain ⟨e1, e2⟩ := HN.out (fun h => by have := (h i hlt).1; rw [HX.out] at this; omega)
          subst e1 e2
          go_wp2_with fail
          go_ret2
          exact ⟨rfl, rfl⟩
        · have f1 : decide (x < 0) = false := decide_eq_false k1
          by_cases k2 : 1048576 < x
          · have f2 : decide (1048576 < x) = true := decide_eq_true k2
            obtain ⟨e1, e2⟩ := HN.out (fun h => by have := (h i hlt).2; rw [HX.out] at this; omega)
            subst e1 e2
            go_wp2_with fail
            go_ret2
            exact ⟨rfl, rfl⟩
          · have f2 : decide (1048576 < x) = false := decide_eq_false k2
            obtain ⟨m, rfl⟩ : ∃ m : Nat, x = m := ⟨x.toNat, by omega⟩
            have HT : Hid (tot (nd zs) (i + 1) = tot (nd zs) i + m) := by
              show _ = _
              rw [tot]
              congr 1
              unfold nd; rw [HX.out]; simp
            have HA : Hid (∀ k, k < i + 1 → 0 ≤ zs.getD k 0 ∧ zs.getD k 0 ≤ 1048576) := fun k hk => by
              by_cases e : k = i
              · subst e; rw [HX.out]; omega
              · exact hall.out k (by omega)
            have hib : i * 1048576 ≤ 400 * 1048576 := Nat.mul_le_mul (by omega) (Nat.le_refl _)
            generalize tot (nd zs) i = s at *
            go_wp2_with fail
            exact ⟨⟨i + 1, by omega, by go_num, by rw [HT.out]; rfl, HA, by rw [HT.out, Nat.add_mul]; omega⟩, by simp [intOf]; omega⟩
      · obtain rfl : i = n := by omega
        obtain ⟨e1, e2⟩ := HY.out hall.out
        subst e1
        have HE := Lib.hid e2
        clear e2
        by_cases h0 : tot (nd zs) i = 0
        · have he : se = 3 := by rw [HE.out, if_pos h0]
          rw [h0]
          have HZ := Lib.hid h0
          subst he
          clear h0
          go_wp2_with fail
          go_ret2
          exact ⟨by rw [HZ.out]; rfl, rfl⟩
        · have he : se = 0 := by rw [HE.out, if_neg h0]
          subst he
          clear HE
          obtain ⟨s, hs⟩ : ∃ s, tot (nd zs) i = s := ⟨_, rfl⟩
          rw [hs] at h0 htl ⊢
          have HS := Lib.hid hs
          clear hs
          have f1 : ((s : Int) == 0) = false := by rw [beq_eq_false_iff_ne]; omega
          go_wp2_with fail
          go_ret2
          exact ⟨by rw [HS.out]; rfl, rfl⟩
  · have hno : ¬ OkW zs := fun h => hl ⟨h.1, h.2.1⟩
    have e1 : smV zs = 0 := by unfold smV; rw [if_neg hno]
    have e2 : smE zs = 2 := by unfold smE; rw [if_neg hno]
    rw [e1, e2]
    clear e1 e2 hno
    generalize zs.length = n at *
    by_cases h1 : n < 1
    · obtain rfl : n = 0 := by omega
      clear hl
      go_enter Try.func8, Try.ntmps8
      go_wp2_with fail
      go_ret2
      exact ⟨rfl, rfl⟩
    · go_enter Try.func8, Try.ntmps8
      go_wp2_with fail
      go_ret2
      exact ⟨rfl, rfl⟩
end Go.Proofs.Ytambhciacmkdoaa
