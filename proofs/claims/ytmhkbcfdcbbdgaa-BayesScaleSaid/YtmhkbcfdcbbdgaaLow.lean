/- Weights without what divides all: the plain law; and bayes.low. No condition. -/
import Derived.Test.YtmhkbcfdcbbdgaaDef
set_option linter.unusedSimpArgs false
set_option linter.unusedVariables false
namespace Go.Proofs.Ytmhkbcfdcbbdgaa
open Go.RowKit
def gcdN (f : Nat → Nat) : Nat → Nat
  | 0 => 0
  | k + 1 => Nat.gcd (gcdN f k) (f k)
theorem gcdN_dvd (f : Nat → Nat) : ∀ {n i : Nat}, i < n → gcdN f n ∣ f i
  | n + 1, i, h => by
    rw [gcdN]
    by_cases e : i = n
    · subst e; exact Nat.gcd_dvd_right _ _
    · exact Nat.dvd_trans (Nat.gcd_dvd_left _ _) (gcdN_dvd f (by omega))
theorem gcdN_congr {f h : Nat → Nat} : ∀ {n : Nat}, (∀ i, i < n → f i = h i) → gcdN f n = gcdN h n
  | 0, _ => rfl
  | n + 1, e => by rw [gcdN, gcdN, gcdN_congr (fun i hi => e i (by omega)), e n (by omega)]
theorem gcdN_mul (c : Nat) (f : Nat → Nat) : ∀ n, gcdN (fun i => c * f i) n = c * gcdN f n
  | 0 => rfl
  | n + 1 => by rw [gcdN, gcdN, gcdN_mul c f n, Nat.gcd_mul_left]
theorem gcdN_le {f : Nat → Nat} {B : Nat} (h : ∀ i, f i ≤ B) : ∀ n, gcdN f n ≤ B
  | 0 => Nat.zero_le _
  | n + 1 => by
    rw [gcdN]
    rcases Nat.eq_zero_or_pos (f n) with e | e
    · rw [e, Nat.gcd_zero_right]; exact gcdN_le h n
    · exact Nat.le_trans (Nat.gcd_le_right _ e) (h n)
/-- The weights in lowest terms. -/
def lw (f : Nat → Nat) (n : Nat) (i : Nat) : Nat := f i / gcdN f n
theorem lw_le (f : Nat → Nat) (n i : Nat) : lw f n i ≤ f i := Nat.div_le_self _ _
theorem lw_congr {f h : Nat → Nat} {n : Nat} (e : ∀ i, i < n → f i = h i) {i : Nat} (hi : i < n) : lw f n i = lw h n i := by
  unfold lw; rw [gcdN_congr e, e i hi]
theorem lw_eq (f : Nat → Nat) {n i : Nat} (hi : i < n) : f i = gcdN f n * lw f n i := (Nat.mul_div_cancel' (gcdN_dvd f hi)).symm
theorem lw_scale {c : Nat} (hc : 0 < c) (f : Nat → Nat) (n i : Nat) : lw (fun i => c * f i) n i = lw f n i := by
  unfold lw; rw [gcdN_mul, Nat.mul_div_mul_left _ _ hc]
theorem lw_zero {f : Nat → Nat} {n i : Nat} (hi : i < n) : lw f n i = 0 ↔ f i = 0 := by
  constructor
  · intro h; rw [lw_eq f hi, h, Nat.mul_zero]
  · intro h; unfold lw; rw [h, Nat.zero_div]
theorem lw_mul (f s : Nat → Nat) {n i : Nat} (hi : i < n) : lw (fun k => lw f n k * s k) n i = lw (fun k => f k * s k) n i := by
  rcases Nat.eq_zero_or_pos (gcdN f n) with e | e
  · refine lw_congr (fun k hk => ?_) hi
    have := lw_eq f hk
    rw [e, Nat.zero_mul] at this
    rw [(lw_zero hk).2 this, this]
  · rw [← lw_scale e (fun k => lw f n k * s k)]
    refine lw_congr (fun k hk => ?_) hi
    rw [← Nat.mul_assoc, ← lw_eq f hk]
theorem lw_low (f : Nat → Nat) {n i : Nat} (hi : i < n) : lw (lw f n) n i = lw f n i := by
  have := lw_mul f (fun _ => 1) hi
  rwa [show (fun k => lw f n k * 1) = lw f n from funext fun k => Nat.mul_one _, show (fun k => f k * 1) = f from funext fun k => Nat.mul_one _] at this
set_option maxHeartbeats 1600000 in
theorem low_ok (f : Nat → Nat) (n cap base g B : Nat) (hB : B < 9223372036854775808) (hf : ∀ i, f i ≤ B) (w : World) (hn : n < 1000) (ho : OC w base g n cap f) (hc : n ≤ cap) (hcm : cap ≤ maxLen) :
    Calls Try.prog 18 #[.slice (some ⟨g, 0, none⟩) n cap] w fun e w' => e = .returned (.slice (some ⟨g, 0, none⟩) n cap) ∧ Below base w w' ∧ OC w' base g n cap (lw f n) := by
  have hbase := ho.lt
  have HF := Lib.hid hf
  have HO := Lib.hid ho
  unfold maxLen at hcm
  clear ho hf
  go_enter Try.func18, Try.ntmps18
  go_wp2_with fail
  go_loopw [3, 9] (fun gv iv wr => ∃ i : Nat, i ≤ n ∧ iv = .int .i64 i ∧ gv = .int .i64 (gcdN f i : Nat) ∧ ∃ q, wr = w.drewN q) (fun _ iv _ => n - (intOf iv).toNat)
  case atStart => exact ⟨0, Nat.zero_le _, rfl, rfl, 0, rfl⟩
  case round =>
    obtain ⟨i, hi, rfl, rfl, q, rfl⟩ := hrel
    by_cases hlt : i < n
    · have cx : (w.drewN q).cell? ⟨g, i, none⟩ = some (.int .i64 (f i : Nat)) := HO.out.get i hlt
      have hfi := HF.out i
      have hgi := gcdN_le HF.out i
      have HG : Hid (Nat.gcd (gcdN f i) (f i) = gcdN f (i + 1)) := rfl
      generalize f i = x at *
      generalize gcdN f i = g0 at *
      go_wp2_with fail
      clear cx
      go_loopw [3, 5] (fun gv xv wr => ∃ a b : Nat, gv = .int .i64 a ∧ xv = .int .i64 b ∧ a ≤ B ∧ b ≤ B ∧ Hid (Nat.gcd a b = gcdN f (i + 1)) ∧ ∃ q, wr = w.drewN q) (fun _ xv _ => (intOf xv).toNat)
      case atStart => exact ⟨g0, x, rfl, rfl, hgi, hfi, HG, q, rfl⟩
      case round =>
        clear HG hgi hfi
        obtain ⟨a, b, rfl, rfl, ha, hb, hg, q2, rfl⟩ := hrel
        by_cases h0 : 0 < b
        · have HM : Hid (((a % b : Nat) : Int) = (a : Int) % (b : Int)) := Int.natCast_emod a b
          have hml := Nat.mod_lt a h0
          have HG2 : Hid (Nat.gcd b (a % b) = gcdN f (i + 1)) := by
            show _ = _
            rw [← hg.out, Nat.gcd_comm a b, Nat.gcd_rec b a, Nat.gcd_comm]
          have hd1 : (1 : Int) ≤ (b : Int) := by omega
          generalize a % b = r at *
          go_wp2_with fail
          go_quiet (fail)
          go_wp2_with fail
          go_roundw
          case rel => exact ⟨b, r, rfl, by rw [HM.out], hb, by omega, HG2, _, World.drewN_drewN _ _ _⟩
          case measure => rw [← HM.out]; simp [intOf]; omega
        · obtain rfl : b = 0 := by omega
          have hg0 := hg.out
          rw [Nat.gcd_zero_right] at hg0
          have HG0 := Lib.hid hg0
          clear hg0 hg
          go_wp2_with fail
          exact ⟨⟨i + 1, by omega, by go_num, by rw [HG0.out], q2, rfl⟩, by simp [intOf]; omega⟩
    · obtain rfl : i = n := by omega
      have hgi := gcdN_le HF.out i
      obtain ⟨G, hG⟩ : ∃ G, gcdN f i = G := ⟨_, rfl⟩
      rw [hG] at hgi ⊢
      have HG := Lib.hid hG
      clear hG
      by_cases h1 : 1 < G
      · go_wp2_with fail
        go_loopw [24] (fun iv wr => ∃ j : Nat, j ≤ i ∧ iv = .int .i64 j ∧ Below base w wr ∧ OC wr base g i cap (fun k => if k < j then lw f i k else f k)) (fun iv _ => i - (intOf iv).toNat)
        case atStart => exact ⟨0, Nat.zero_le _, rfl, (Below.refl _ _).drewN q, (show OC (w.drewN q) base g i cap f from HO.out).congr (fun k _ => by rw [if_neg (by omega)])⟩
        case round =>
          obtain ⟨j, hj, rfl, hbel, ho⟩ := hrel
          by_cases hlt : j < i
          · have cx := ho.get j hlt
            have cf := ho.frozen j
            rw [if_neg (by omega)] at cx
            have HS := Lib.hid (ho.set j (f j / G))
            have HB2 := Lib.hid (hbel.setCell (show base ≤ (⟨g, j, none⟩ : Addr).block from hbase.1) (.int .i64 ((f j / G : Nat) : Int)))
            have hfj := HF.out j
            have hq : ((f j / G : Nat) : Int) = (f j : Int) / (G : Int) := rfl
            have hq2 : f j / G ≤ f j := Nat.div_le_self _ _
            have HV : Hid (f j / G = lw f i j) := by show _ = _; unfold lw; rw [HG.out]
            have HQ := Lib.hid hq
            clear hq ho hbel
            generalize f j / G = z at *
            generalize hx : f j = x at *
            have HX := Lib.hid hx
            clear hx
            go_wp2_with fail
            have e : wrap64 ((x : Int) / (G : Int)) = (z : Int) := by rw [← HQ.out]; unfold wrap64; omega
            rw [e]
            exact ⟨⟨j + 1, by omega, by go_num, HB2.out, HS.out.congr (fun k _ => by
              by_cases e1 : k = j
              · subst e1; rw [if_pos rfl, if_pos (by omega), HV.out]
              · rw [if_neg e1]
                by_cases e2 : k < j
                · rw [if_pos e2, if_pos (by omega)]
                · rw [if_neg e2, if_neg (by omega)])⟩, by simp [intOf]; omega⟩
          · obtain rfl : j = i := by omega
            have HB := Lib.hid hbel
            have HO2 := Lib.hid (ho.congr (f' := lw f j) (fun k hk => by rw [if_pos hk]))
            clear hbel ho
            go_wp2_with fail
            go_ret
            exact ⟨rfl, HB.out, HO2.out⟩
      · have HE : Hid (∀ k, k < i → f k = lw f i k) := fun k hk => by
          have := lw_eq f hk
          rw [HG.out] at this
          rcases Nat.lt_or_ge 0 G with h | h
          · rw [show G = 1 by omega, Nat.one_mul] at this; exact this
          · rw [show G = 0 by omega, Nat.zero_mul] at this; rw [(lw_zero hk).2 this, this]
        go_wp2_with fail
        go_ret
        exact ⟨rfl, (Below.refl _ _).drewN q, (show OC (w.drewN q) base g i cap f from HO.out).congr HE.out⟩
end Go.Proofs.Ytmhkbcfdcbbdgaa
