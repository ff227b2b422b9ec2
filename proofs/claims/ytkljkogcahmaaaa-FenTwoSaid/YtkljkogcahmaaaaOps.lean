/- The tree's functions: what they answer. No condition. -/
import Derived.Test.YtkljkogcahmaaaaTree
set_option linter.unusedSimpArgs false
set_option linter.unusedVariables false
namespace Go.Proofs.Ytkljkogcahmaaaa
open Go.RowKit
theorem lb_bits_all : ((List.range 512).all fun k => decide (bits .and .i64 (k : Int) (-(k : Int)) = (lb k : Int))) = true := by decide +kernel
theorem lb_bits {k : Nat} (h : k < 512) : bits .and .i64 (k : Int) (-(k : Int)) = (lb k : Int) := by
  have := List.all_eq_true.1 lb_bits_all k (List.mem_range.2 h)
  simpa using this
theorem three {a b c : Prop} (x : a) (y : b) (z : c) : a ∧ b ∧ c := ⟨x, y, z⟩
/-- The rows behind a block stay. -/
def Keeps (g : Nat) (w w' : World) : Prop := ∀ b v n xs, g < b → w.ownsRow b 3 1 v n xs → w'.ownsRow b 3 1 v n xs
set_option maxHeartbeats 800000 in
theorem add_ok (f g' : Nat → Nat) (k n : Nat) (hk : k < n) (hn : n ≤ 400) (hg : ∀ i, i ≠ k → g' i = f i) (hf : ∀ i, f i ≤ 1073741824) (hg2 : ∀ i, g' i ≤ 1073741824) (base g : Nat) (w : World) (ho : OI w base g (n + 1) (tr f)) :
    Calls Try.prog 17 #[.slice (some ⟨g, 0, none⟩) (n + 1) (n + 1), .int .i64 k, .int .i64 ((g' k : Int) - f k)] w fun e w' => e = .returned (.tuple #[]) ∧ Below base w w' ∧ OI w' base g (n + 1) (tr g') ∧ Keeps g w w' := by
  have HO := Lib.hid ho
  have HG := Lib.hid hg
  have HT := Lib.hid (fun j => tr_le hf j)
  have HT2 := Lib.hid (fun j => tr_le hg2 j)
  have hby : -1073741824 ≤ (g' k : Int) - f k ∧ (g' k : Int) - f k ≤ 1073741824 := by have := hf k; have := hg2 k; omega
  have HB := Lib.hid (Below.refl base w)
  have HL := Lib.hid ho.lt
  have HONE := Lib.hid (fun j => tr_one hg j (by omega))
  clear ho hg hf hg2
  generalize hby' : (g' k : Int) - f k = b at *
  clear hby'
  go_enter Try.func17, Try.ntmps17
  go_wp2_with fail
  go_loopw [1] (fun pv wr => ∃ p : Nat, 0 < p ∧ p - lb p ≤ k ∧ k < p ∧ p < 1000 ∧ pv = .int .i64 p ∧ Below base w wr ∧ OI wr base g (n + 1) (fun j => if j < p then tr g' j else tr f j) ∧ Keeps g w wr) (fun pv _ => n + 1 - (intOf pv).toNat)
  case atStart =>
    have hlb := lb_pos (k := k + 1) (by omega) (by omega)
    refine ⟨k + 1, by omega, by omega, by omega, by omega, rfl, HB.out, HO.out.congr (fun j hj => ?_), fun _ _ _ _ _ h => h⟩
    by_cases e : j < k + 1
    · rw [if_pos e]
      have := HONE.out j
      rw [if_neg (by omega)] at this
      omega
    · rw [if_neg e]
  case round =>
    obtain ⟨p, hp0, hpk, hkp, hp9, rfl, hbel, hol, hkk⟩ := hrel
    by_cases hlt : p < n + 1
    · have c0 := hol.get p hlt
      rw [if_neg (by omega)] at c0
      have fr := hol.frozen p
      have hb1 := lb_bits (k := p) (by omega)
      obtain ⟨q1, q2⟩ := lb_pos hp0 (show p < 512 by omega)
      obtain ⟨r1, r2⟩ := lb_next hp0 (show p < 402 by omega)
      have e1 := HONE.out p
      rw [if_pos ⟨hpk, hkp⟩] at e1
      have t1 := HT.out p
      have t2 : p * 1073741824 ≤ 401 * 1073741824 := Nat.mul_le_mul_right _ (by omega)
      have HS := Lib.hid (OI.congr (hol.set p (tr g' p)) (f' := fun j => if j < p + lb p then tr g' j else tr f j) (fun j hj => by
        by_cases e : j = p
        · subst e; rw [if_pos rfl, if_pos (by omega)]
        · rw [if_neg e]
          by_cases e2 : j < p
          · rw [if_pos e2, if_pos (by omega)]
          · rw [if_neg e2]
            by_cases e3 : j < p + lb p
            · rw [if_pos e3]
              have h3 := r2 j (by omega) e3
              have := HONE.out j
              rw [if_neg (by omega)] at this
              omega
            · rw [if_neg e3]))
      have HBS := Lib.hid (hbel.setCell (Nat.le_of_lt_succ (Nat.lt_succ_of_le HL.out.1)) (p := ⟨g, p, none⟩) (.int .i64 (tr g' p : Int)))
      have HKS : Hid (Keeps g w (wr.setCell ⟨g, p, none⟩ (.int .i64 (tr g' p : Int)))) := fun b v n xs hb h => own_store (hkk b v n xs hb h) (by exact hb) _
      clear hol hbel t2 r2 hkk
      generalize tr f p = x at *
      generalize hy : tr g' p = y at *
      generalize lb p = l at *
      rw [e1] at HBS HS HKS
      go_wp2_with fail
      exact ⟨⟨p + l, by omega, by omega, by omega, by omega, by go_num, HBS.out, HS.out, HKS.out⟩, by simp [intOf]; omega⟩
    · have HX := Lib.hid (three hbel (hol.congr (f' := tr g') fun j hj => by rw [if_pos (by omega)]) hkk)
      clear hbel hol hkk
      go_wp2_with fail
      exact bodyPost_end (results_none rfl _ _ _) rfl ⟨rfl, HX.out.1, HX.out.2.1, HX.out.2.2⟩
theorem tot_cap {f : Nat → Nat} (hf : ∀ i, f i ≤ 1073741824) {k : Nat} (hk : k ≤ 400) : tot f k ≤ 429496729600 := by
  have h1 := tot_le (k := k) (fun i (_ : i < k) => hf i)
  generalize tot f k = T at *
  omega
set_option maxHeartbeats 800000 in
theorem sum_ok (f : Nat → Nat) (k n : Nat) (hk : k ≤ n) (hn : n ≤ 400) (hf : ∀ i, f i ≤ 1073741824) (base g : Nat) (w : World) (ho : OI w base g (n + 1) (tr f)) :
    Calls Try.prog 15 #[.slice (some ⟨g, 0, none⟩) (n + 1) (n + 1), .int .i64 k] w fun e w' => e = .returned (.int .i64 (tot f k : Nat)) ∧ w' = w := by
  have HO := Lib.hid ho
  have hTk2 := tot_cap hf (show k ≤ 400 by omega)
  clear ho hf
  generalize hS : tot f k = S at *
  go_enter Try.func15, Try.ntmps15
  go_wp2_with fail
  go_loop [1, 5] (fun kv sv => ∃ p : Nat, p ≤ n ∧ kv = .int .i64 p ∧ ∃ q : Nat, q + tot f p = S ∧ sv = .int .i64 q) (fun kv _ => (intOf kv).toNat)
  case atStart => exact ⟨k, hk, rfl, 0, by omega, rfl⟩
  case round =>
    obtain ⟨p, hp, rfl, q, hq, rfl⟩ := hrel
    by_cases hlt : 0 < p
    · have c0 := HO.out.get p (by omega)
      have hb1 := lb_bits (k := p) (by omega)
      obtain ⟨q1, q2⟩ := lb_pos hlt (show p < 512 by omega)
      have ht := tr_plus f p
      have HQ : Hid (q + tr f p + tot f (p - lb p) = S) := by show _ = _; omega
      have hxx : q + tr f p ≤ S := by omega
      clear ht hq
      generalize tr f p = x at *
      generalize lb p = l at *
      go_wp2_with fail
      exact ⟨⟨p - l, by omega, by go_num, q + x, HQ.out, by go_num⟩, by simp [intOf]; omega⟩
    · obtain rfl : p = 0 := by omega
      obtain rfl : q = S := by rw [← hq]; rfl
      go_wp2_with fail
      go_ret
      exact ⟨rfl, rfl⟩
theorem pow_le {a b : Nat} (h : a ≤ b) : 2 ^ a ≤ 2 ^ b := Nat.pow_le_pow_right (by decide) h
/-- After the steps: up to the place, and less than the next. -/
def FI (f : Nat → Nat) (N n0 k W q : Nat) : Prop := k ≤ N ∧ q + tot f k = n0 ∧ n0 < tot f (min (k + W) N)
set_option maxHeartbeats 1600000 in
theorem find_ok (f : Nat → Nat) (n0 n : Nat) (h0 : n0 < tot f n) (hn : n ≤ 400) (hf : ∀ i, f i ≤ 1073741824) (base g : Nat) (w : World) (ho : OI w base g (n + 1) (tr f)) :
    Calls Try.prog 16 #[.slice (some ⟨g, 0, none⟩) (n + 1) (n + 1), .int .i64 n0] w fun e w' => ∃ k : Nat, e = .returned (.int .i64 k) ∧ k < n ∧ AtP f n0 k ∧ w' = w := by
  have HO := Lib.hid ho
  have HT : Hid (∀ j, j ≤ n → tot f j ≤ 429496729600) := fun j hj => tot_cap hf (by omega)
  have H0 := Lib.hid h0
  have hn0 : n0 < 429496729600 := by have := HT.out n (Nat.le_refl _); omega
  clear ho hf h0
  go_enter Try.func16, Try.ntmps16
  go_wp2_with fail
  go_loop [5] (fun sv => ∃ a : Nat, a < 9 ∧ ∃ s : Nat, s = 2 ^ a ∧ s ≤ 400 ∧ sv = .int .i64 s) (fun sv => 500 - (intOf sv).toNat)
  case atStart => exact ⟨0, by omega, 1, rfl, by omega, rfl⟩
  case round =>
    obtain ⟨a, ha, s, hs, hs4, rfl⟩ := hrel
    by_cases hlt : 2 * s < n + 1
    · have HA : Hid (a + 1 < 9 ∧ s * 2 = 2 ^ (a + 1)) := by
        refine ⟨?_, by rw [hs, Nat.pow_succ]⟩
        apply Nat.lt_of_not_le
        intro h
        have : 2 ^ 9 ≤ 2 ^ (a + 1) := pow_le h
        rw [show 2 ^ (a + 1) = s * 2 by rw [hs, Nat.pow_succ]] at this
        omega
      have hs1 : 1 ≤ s := by rw [hs]; exact Nat.one_le_two_pow
      clear hs
      go_wp2_with fail
      exact ⟨⟨a + 1, HA.out.1, s * 2, HA.out.2, by omega, by go_num⟩, by simp [intOf]; omega⟩
    · have HS0 := Lib.hid hs
      have HLT := Lib.hid hlt
      clear hs
      go_wp2_with fail
      go_loop [5, 6, 1] (fun sv kv qv => ∃ s k q W : Nat, ((s = 0 ∧ W = 1) ∨ ∃ a, a < 9 ∧ s = 2 ^ a ∧ W = 2 * s) ∧ (∃ c, k = c * W) ∧ s ≤ 400 ∧ FI f n n0 k W q ∧ sv = .int .i64 s ∧ kv = .int .i64 k ∧ qv = .int .i64 q) (fun sv _ _ => (intOf sv).toNat)
      case atStart => exact ⟨s, 0, n0, 2 * s, .inr ⟨a, ha, HS0.out, rfl⟩, ⟨0, by omega⟩, hs4, ⟨by omega, rfl, by rw [show min (0 + 2 * s) n = n by have := HLT.out; omega]; exact H0.out⟩, rfl, rfl, rfl⟩
      case round =>
        clear HS0 HLT hlt hs4
        obtain ⟨s, k, q, W, hsW, hkW, hs4, hfi, rfl, rfl, rfl⟩ := hrel
        obtain ⟨hkn, hq, hlt2⟩ := hfi
        have hqb : q < 429496729600 := by omega
        by_cases hs0 : 0 < s
        · obtain ⟨a, ha, hsa, rfl⟩ : ∃ a, a < 9 ∧ s = 2 ^ a ∧ W = 2 * s := by
            rcases hsW with h | h
            · omega
            · exact h
          obtain ⟨c, hc⟩ := hkW
          have HH : Hid ((s / 2 = 0 ∧ s = 1) ∨ ∃ a, a < 9 ∧ s / 2 = 2 ^ a ∧ s = 2 * (s / 2)) := by
            match a with
            | 0 => exact .inl (by rw [hsa]; decide)
            | a + 1 =>
              refine .inr ⟨a, by omega, ?_, ?_⟩
              · rw [hsa, Nat.pow_succ]; omega
              · rw [hsa, Nat.pow_succ]; omega
          have hks : k + s = (2 * c + 1) * s := by rw [hc, Nat.add_mul, Nat.one_mul, ← Nat.mul_assoc, Nat.mul_comm c 2]
          have HLB : Hid (k + s < 402 → lb (k + s) = s) := fun h => by
            rw [hks, hsa] at h
            rw [hks]
            conv => lhs; rw [hsa]
            rw [lb_odd ha h, hsa]
          have HC1 : Hid (∃ c, k = c * s) := ⟨c * 2, by rw [hc, Nat.mul_assoc]⟩
          have HC2 : Hid (∃ c, k + s = c * s) := ⟨_, hks⟩
          clear hsW hsa ha hc hks
          by_cases hl : k + s < n + 1
          · have c0 := HO.out.get (k + s) hl
            have ht := tr_plus f (k + s)
            rw [HLB.out (by omega), show k + s - s = k by omega] at ht
            have hb := HT.out (k + s) (by omega)
            by_cases hle : tr f (k + s) ≤ q
            · have HF : Hid (FI f n n0 (k + s) s (q - tr f (k + s))) := ⟨by omega, by omega, by rw [show k + s + s = k + 2 * s by omega]; exact hlt2⟩
              clear hq hlt2 ht
              generalize tr f (k + s) = x at *
              go_wp2_with fail
              exact ⟨⟨s / 2, k + s, q - x, s, HH.out, HC2.out, by omega, HF.out, by go_num, by go_num, by go_num⟩, by simp [intOf]; omega⟩
            · have HF : Hid (FI f n n0 k s q) := ⟨hkn, hq, by rw [show min (k + s) n = k + s by omega]; omega⟩
              clear hq hlt2 ht
              generalize tr f (k + s) = x at *
              go_wp2_with fail
              exact ⟨⟨s / 2, k, q, s, HH.out, HC1.out, by omega, HF.out, by go_num, by go_num, by go_num⟩, by simp [intOf]; omega⟩
          · have HF : Hid (FI f n n0 k s q) := ⟨hkn, hq, by rw [show min (k + s) n = min (k + 2 * s) n by omega]; exact hlt2⟩
            clear hq hlt2
            go_wp2_with fail
            exact ⟨⟨s / 2, k, q, s, HH.out, HC1.out, by omega, HF.out, by go_num, by go_num, by go_num⟩, by simp [intOf]; omega⟩
        · obtain rfl : s = 0 := by omega
          have hW : W = 1 := by
            rcases hsW with h | ⟨a, ha, h, -⟩
            · exact h.2
            · have := Nat.one_le_two_pow (n := a); omega
          subst hW
          have HA : Hid (k < n ∧ AtP f n0 k) := by
            have hk : k < n := by
              apply Nat.lt_of_not_le
              intro h
              rw [show min (k + 1) n = k by omega] at hlt2
              omega
            rw [show min (k + 1) n = k + 1 by omega] at hlt2
            exact ⟨hk, by omega, hlt2⟩
          clear hsW hkW hq hlt2
          go_wp2_with fail
          go_ret
          exact ⟨k, rfl, HA.out.1, HA.out.2, rfl⟩
end Go.Proofs.Ytkljkogcahmaaaa
