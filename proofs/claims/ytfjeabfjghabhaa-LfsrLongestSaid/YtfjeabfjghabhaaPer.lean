/- lfsr.Period, and Jump's inner function: what they answer. No condition. -/
import Derived.Test.YtfjeabfjghabhaaIter
set_option linter.unusedSimpArgs false
set_option linter.unusedVariables false
namespace Go.Proofs.Ytfjeabfjghabhaa
open Go.RowKit
/-- A row of words: block g holds f. -/
def RU (w : World) (g n : Nat) (f : Nat → Nat) : Prop := g < w.heap.size ∧ ∀ i, i < n → w.cell? ⟨g, i, none⟩ = some (.int .u32 (f i : Nat))
theorem RU.below {w w' : World} {B g n : Nat} {f : Nat → Nat} (h : RU w g n f) (hb : Below B w w') (hB : w.heap.size ≤ B) : RU w' g n f :=
  ⟨Nat.lt_of_lt_of_le h.1 hb.size, fun i hi => (World.cell?_of_block (hb.block g (Nat.lt_of_lt_of_le h.1 hB))).trans (h.2 i hi)⟩
theorem RU.drewN {w : World} {g n : Nat} {f : Nat → Nat} (h : RU w g n f) (q : Nat) : RU (w.drewN q) g n f := h
set_option maxHeartbeats 400000 in
set_option maxRecDepth 20000 in
theorem all_ok (g n s : Nat) (f : Nat → Nat) (hn : n ≤ 20) (hs : s < 1048576) (hf : ∀ i, i < n → f i < 1048576) (w : World) (h : RU w g n f) :
    Calls Try.prog 15 #[.slice (some ⟨g, 0, none⟩) n n, .int .u32 s] w fun e w' => e = .returned (.int .u32 (app f s n : Nat)) ∧ w' = w := by
  have H := Lib.hid h.2
  have HF := Lib.hid hf
  clear h hf
  go_enter Try.func15, Try.ntmps15
  go_wp2_with fail
  go_loop [10, 5, 6, 7] (fun kv ov _ _ => ∃ k : Nat, k ≤ n ∧ kv = .int .i64 k ∧ ov = .int .u32 (app f s k : Nat)) (fun kv _ _ _ => n - (intOf kv).toNat)
  case atStart => exact ⟨0, Nat.zero_le _, rfl, rfl⟩
  case round =>
    obtain ⟨k, hk, rfl, rfl⟩ := hrel
    by_cases hlt : k < n
    · have c1 := H.out k hlt
      have hf1 := HF.out k hlt
      have ha : app f s k < 2 ^ 20 := app_lt fun i hi => HF.out i (by omega)
      have d1 := div_int s k
      have hq : s / 2 ^ k ≤ s := Nat.div_le_self _ _
      have hm2 : s / 2 ^ k % 2 < 2 := Nat.mod_lt _ (by omega)
      have a1 : bits .and .u32 ((s / 2 ^ k : Nat) : Int) 1 = ((s / 2 ^ k % 2 : Nat) : Int) := by
        have := and32 (s / 2 ^ k) 1 (by omega) (by omega)
        rwa [Nat.and_one_is_mod] at this
      have a2 := xor32 (app f s k) (f k) (by omega) (by omega)
      have HA : Hid (app f s (k + 1) = if s / 2 ^ k % 2 = 1 then app f s k ^^^ f k else app f s k) := rfl
      generalize s / 2 ^ k = q at *
      generalize q % 2 = m at *
      rcases (show m = 0 ∨ m = 1 by omega) with rfl | rfl
      · rw [if_neg (by omega)] at HA
        generalize app f s k = o at *
        generalize o ^^^ f k = z at *
        generalize f k = x at *
        go_wp2_with fail
        exact ⟨⟨k + 1, by omega, by go_num, by rw [HA.out]⟩, by simp [intOf]; omega⟩
      · rw [if_pos rfl] at HA
        generalize app f s k = o at *
        generalize o ^^^ f k = z at *
        generalize f k = x at *
        go_wp2_with fail
        exact ⟨⟨k + 1, by omega, by go_num, by rw [HA.out]⟩, by simp [intOf]; omega⟩
    · obtain rfl : k = n := by omega
      go_wp2_with fail
      go_ret
      exact ⟨rfl, rfl⟩
theorem period_bad (n : Int) (t s : Nat) (h : ¬ (OkT n t ∧ s / 2 ^ n.toNat = 0)) (w : World) : Calls Try.prog 9 #[.int .i64 n, .int .u32 t, .int .u32 s] w fun e w' => e = .returned (.tuple #[.int .i64 0, .int .i64 1]) ∧ w' = w := by
  have HS := Lib.hid (step_bad n t s h)
  clear h
  go_enter Try.func9, Try.ntmps9
  go_wp2_with fail
  refine (HS.out _).mono ?_
  rintro e w1 ⟨rfl, rfl⟩
  go_wp2_with fail
  go_ret2
  exact ⟨rfl, rfl⟩
set_option maxHeartbeats 400000 in
theorem period_ok (n t s : Nat) (hk : OkT n t) (hs : s < 2 ^ n) (w : World) : Calls Try.prog 9 #[.int .i64 n, .int .u32 t, .int .u32 s] w fun e w' => (∃ q, w' = w.drewN q) ∧ ∃ p : Nat, e = .returned (.tuple #[.int .i64 p, .int .i64 0]) ∧ 1 ≤ p ∧ p ≤ 2 ^ n ∧ it n t p s = s ∧ ∀ j, 0 < j → j < p → it n t j s ≠ s := by
  have HS := Lib.hid (fun k w => step_ok n t (it n t k s) hk (it_lt hs k) w)
  obtain ⟨p, hp1, hp2, hp3⟩ := again hk hs
  obtain ⟨hn1, hn2, -, hP, -, -⟩ := hk.two
  have HL := Lib.hid (fun k => it_lt (t := t) hs k)
  have HP := Lib.hid hp3
  obtain ⟨P, hPP⟩ : ∃ P, 2 ^ n = P := ⟨_, rfl⟩
  rw [hPP] at hp2 hP HL ⊢
  have HST : Hid (∀ k, stp n t (it n t k s) = it n t (k + 1) s) := fun k => rfl
  clear hk hs hp3 hPP
  go_enter Try.func9, Try.ntmps9
  go_wp2_with fail
  refine (HS.out 0 _).mono ?_
  rintro e w1 ⟨rfl, q, rfl⟩
  rw [HST.out 0]
  go_wp2_with fail
  go_loopw [8, 10, 24, 25, 26, 27, 28, 29, 30] (fun sv mv _ _ _ _ _ _ _ wr => ∃ k q : Nat, 1 ≤ k ∧ k ≤ P ∧ sv = .int .u32 (it n t k s : Nat) ∧ mv = .int .i64 k ∧ wr = w.drewN q ∧ Hid (∀ j, 0 < j → j < k → it n t j s ≠ s)) (fun _ mv _ _ _ _ _ _ _ _ => P - (intOf mv).toNat)
  case atStart => exact ⟨1, _, Nat.le_refl _, by omega, rfl, rfl, rfl, fun j h1 h2 => by omega⟩
  case round =>
    obtain ⟨k, q1, hk1, hk2, rfl, rfl, rfl, hmin⟩ := hrel
    by_cases he : it n t k s = s
    · have HE := Lib.hid he
      rw [he]
      clear he
      go_wp2_with fail
      go_ret2
      exact ⟨⟨_, rfl⟩, k, rfl, hk1, hk2, HE.out, hmin.out⟩
    · have hkp : k < P := by
        rcases Nat.lt_or_ge k P with h | h
        · exact h
        · rcases Nat.lt_or_ge p k with h2 | h2
          · exact absurd HP.out (hmin.out p hp1 h2)
          · have : k = p := by omega
            subst this
            exact absurd HP.out he
      have HM : Hid (∀ j, 0 < j → j < k + 1 → it n t j s ≠ s) := fun j h1 h2 => by
        by_cases e : j = k
        · subst e; exact he
        · exact hmin.out j h1 (by omega)
      have HS1 := Lib.hid (HS.out k)
      rw [HST.out k] at HS1
      have HK : Hid (∀ x, x = it n t (k + 1) s → Value.int .u32 (x : Nat) = .int .u32 (it n t (k + 1) s : Nat)) := fun x h => by rw [h]
      have f1 : ((it n t k s : Int) == (s : Int)) = false := by rw [beq_eq_false_iff_ne]; omega
      obtain ⟨y, hy⟩ : ∃ y, it n t (k + 1) s = y := ⟨_, rfl⟩
      rw [hy] at HS1
      have HY := Lib.hid hy
      obtain ⟨x, hx⟩ : ∃ x, it n t k s = x := ⟨_, rfl⟩
      have f2 : ((it n t k s : Int) != (s : Int)) = true := by rw [bne, f1]; rfl
      rw [hx] at f1 f2 HS1 he ⊢
      have f3 : (x = s) = False := eq_false he
      clear hy hx he HK
      go_wp2_with fail
      refine (HS1.out _).mono ?_
      rintro e w2 ⟨rfl, q2, rfl⟩
      go_wp2_with fail
      exact ⟨⟨k + 1, q1 + q2, by omega, by omega, by rw [HY.out], by go_num, rfl, HM⟩, by simp [intOf]; omega⟩
end Go.Proofs.Ytfjeabfjghabhaa
