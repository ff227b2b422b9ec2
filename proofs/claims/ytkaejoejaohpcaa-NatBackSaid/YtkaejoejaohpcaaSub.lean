/- nat.Sub: what it answers. Condition: two numbers, of at most 64 words, the first not below the second. -/
import Derived.Test.YtkaejoejaohpcaaCmp
set_option linter.unusedSimpArgs false
set_option linter.unusedVariables false
namespace Go.Proofs.Ytkaejoejaohpcaa
open Go.RowKit
theorem sub_stepB {B V va vb c x y s c2 p : Nat} (h : V + vb = va + p * c) (hs : s + y + c = x + B * c2) :
    (V + p * s) + (vb + p * y) = (va + p * x) + p * B * c2 := by
  have e : p * (s + y + c) = p * (x + B * c2) := by rw [hs]
  grind
theorem sub_word {x y c : Nat} (hx : x < 18446744073709551616) (hy : y < 18446744073709551616) (hc : c ≤ 1) :
    (x + 18446744073709551616 - y - c) % 18446744073709551616 + y + c = x + 18446744073709551616 * (if x < y + c then 1 else 0) := by
  split <;> omega
theorem val_one (s : Nat) : val [s] = s := rfl
theorem sub_end {V va vb p c : Nat} (h : V + vb = va + p * c) (hV : V < p) (hle : vb ≤ va) : V + vb = va := by
  rcases Nat.eq_zero_or_pos c with h0 | h0
  · rw [h0, Nat.mul_zero, Nat.add_zero] at h; exact h
  · have h1 : p * 1 ≤ p * c := Nat.mul_le_mul (Nat.le_refl _) h0
    rw [Nat.mul_one] at h1
    generalize p * c = q at *
    omega
theorem ite_le1 (p : Prop) [Decidable p] : (if p then 1 else 0) ≤ 1 := by split <;> omega
set_option maxHeartbeats 1000000 in
set_option maxRecDepth 20000 in
theorem sub_run (a : Option Addr) (n c : Nat) (la : List Nat) (a2 : Option Addr) (m c2 : Nat) (lb : List Nat) (w : World) (ha : Rd w (.slice a n c) (castN la)) (hb : Rd w (.slice a2 m c2) (castN lb))
    (ca : Canon la) (cb : Canon lb) (h64 : n ≤ 64) (h64' : m ≤ 64) (hle : val lb ≤ val la) :
    Calls Try.prog 14 #[.slice a n c, .slice a2 m c2] w fun e w' => Below w.heap.size w w' ∧ ∃ b k l, e = .returned (.tuple #[.slice b k k, .int .i64 0]) ∧ Rd w' (.slice b k k) (castN l) ∧ Canon l ∧ val l + val lb = val la := by
  obtain ⟨i0, hi0, hz0, hz1, hz2⟩ := info_parts Try.info28
  obtain ⟨hla, -, -⟩ := ha.lenEq
  obtain ⟨hlb, -, -⟩ := hb.lenEq
  have hmn : m ≤ n := by
    rcases Nat.lt_or_ge n m with h | h
    · have := lt_len ca cb (by omega); omega
    · exact h
  have HR1 : Hid (∀ X, Below w.heap.size w X → Calls Try.prog 15 #[.slice a n c] X fun e w' => e = .returned (.bool true) ∧ X = w') := fun X hX => (right_any a n c la X (ha.below hX (Nat.le_refl _))).mono fun e w' ⟨h1, h2⟩ => ⟨by rw [h1, (rightB_iff ca.wd).2 ⟨by omega, ca⟩], h2⟩
  have HR2 : Hid (∀ X, Below w.heap.size w X → Calls Try.prog 15 #[.slice a2 m c2] X fun e w' => e = .returned (.bool true) ∧ X = w') := fun X hX => (right_any a2 m c2 lb X (hb.below hX (Nat.le_refl _))).mono fun e w' ⟨h1, h2⟩ => ⟨by rw [h1, (rightB_iff cb.wd).2 ⟨by omega, cb⟩], h2⟩
  have HCMP : Hid (Calls Try.prog 22 #[.slice a n c, .slice a2 m c2] w fun e w' => Below w.heap.size w w' ∧ ∃ z : Int, e = .returned (.int .i64 z) ∧ ¬ z < 0) := (compare_any a n c la a2 m c2 lb w ha hb ca cb h64 h64').mono fun e w' ⟨h1, z, h2, h3⟩ => ⟨h1, z, h2, fun h => by have := h3.1 h; omega⟩
  have HW2 : Hid (∀ X k, Below w.heap.size w X → Calls Try.prog 20 #[.slice a2 m c2, .int .i64 (k : Nat)] X fun e w' => e = .returned (.int .u64 ((lb.getD k 0 : Nat) : Int)) ∧ X = w') := fun X k hX => word_any a2 m c2 k lb X (hb.below hX (Nat.le_refl _))
  have HXA : Hid (∀ k, la.getD k 0 < 18446744073709551616) := fun k => getD_lt ca.wd k
  have HXB : Hid (∀ k, lb.getD k 0 < 18446744073709551616) := fun k => getD_lt cb.wd k
  have HTA : Hid (la.take n = la) := List.take_of_length_le (by omega)
  have HTB : Hid (lb.take n = lb) := List.take_of_length_le (by omega)
  have HLA : Hid (val la < 18446744073709551616 ^ n) := by have := val_lt ca.wd; rw [hla] at this; exact this
  have HLE := Lib.hid hle
  have HCA : Hid (0 < n → ∃ b off, a = some ⟨b, off, none⟩ ∧ b < w.heap.size ∧ ∀ X, Below w.heap.size w X → ∀ i, i < n → X.cell? ⟨b, off + i, none⟩ = some (.int .u64 ((la.getD i 0 : Nat) : Int))) := fun h0 => by
    obtain ⟨b, off, h1, h2, h3⟩ := ha.at h0
    exact ⟨b, off, h1, h2, fun X hX i hi => (World.cell?_of_block (hX.block b h2)).trans (h3 i hi)⟩
  clear ha hb hla hlb ca cb hle
  go_enter Try.func14, Try.ntmps14
  go_wp2_with fail
  refine (HR1.out w (Below.refl _ _)).mono ?_
  rintro e w1 ⟨rfl, rfl⟩
  go_wp2_with fail
  refine (HR2.out w (Below.refl _ _)).mono ?_
  rintro e w1 ⟨rfl, rfl⟩
  go_wp2_with fail
  refine HCMP.out.mono ?_
  rintro e w1 ⟨hb1, z, rfl, hz⟩
  have HB1 := Lib.hid hb1
  have hzd : decide (z < 0) = false := decide_eq_false (by omega)
  clear hb1 HR1 HR2 HCMP
  go_wp2_with fail
  clear hzd hz
  have HO0 : Hid (w1.ownsRow w.heap.size 28 1 (.slice none 0 0) 0 ((castN []).map (Value.int .u64))) := World.ownsRow_nil _ _ _ _
  have HV0 : Hid (val [] + val (lb.take 0) = val (la.take 0) + 18446744073709551616 ^ 0 * 0) := by show _ = _; simp [val]
  go_loopw [26, 6, 7] (fun iv v cv wr => ∃ i c : Nat, ∃ o : List Nat, i ≤ n ∧ c ≤ 1 ∧ iv = .int .i64 i ∧ cv = .int .u64 c ∧ Hid (o.length = i ∧ Wd o ∧ val o + val (lb.take i) = val (la.take i) + 18446744073709551616 ^ i * c) ∧ Hid (wr.ownsRow w.heap.size 28 1 v i ((castN o).map (Value.int .u64))) ∧ Hid (Below w.heap.size w wr)) (fun iv _ _ _ => n - (intOf iv).toNat)
  case atStart => exact ⟨0, 0, [], Nat.zero_le _, Nat.zero_le _, rfl, rfl, ⟨rfl, (fun x h => by cases h), HV0.out⟩, HO0.out, HB1.out⟩
  case round =>
    clear HO0 HV0
    obtain ⟨i, cc, o, hi, hcc, rfl, rfl, HP, HO, HB⟩ := hrel
    by_cases hiM : i < n
    · have hiI : (i : Int) < (n : Int) := by omega
      obtain ⟨b, off, rfl, hb, hca⟩ := HCA.out (by omega)
      have cx := hca wr HB.out i hiM
      have W2 : Hid (∀ q, Calls Try.prog 20 #[.slice a2 m c2, .int .i64 i] (wr.drewN q) fun e w' => e = .returned (.int .u64 ((lb.getD i 0 : Nat) : Int)) ∧ ∃ m', w' = wr.drewN m') := fun q => (HW2.out (wr.drewN q) i (HB.out.drewN q)).mono fun e w' ⟨h1, h2⟩ => ⟨h1, q, h2.symm⟩
      have hx := HXA.out i
      have hy := HXB.out i
      have HSA : Hid (val (la.take (i + 1)) = val (la.take i) + 18446744073709551616 ^ i * la.getD i 0) := val_take la i
      have HSB : Hid (val (lb.take (i + 1)) = val (lb.take i) + 18446744073709551616 ^ i * lb.getD i 0) := val_take lb i
      have HCAn : Hid (∀ X, Below w.heap.size w X → ∀ i, i < n → X.cell? ⟨b, off + i, none⟩ = some (.int .u64 ((la.getD i 0 : Nat) : Int))) := hca
      clear hca
      generalize hxx : la.getD i 0 = x at *
      generalize hyy : lb.getD i 0 = y at *
      clear hxx hyy
      have e64 := fun (w : World) => sub64 x y cc hcc w
      have HS : Hid ((x + 18446744073709551616 - y - cc) % 18446744073709551616 + y + cc = x + 18446744073709551616 * (if x < y + cc then 1 else 0)) := sub_word hx hy hcc
      have hs : (x + 18446744073709551616 - y - cc) % 18446744073709551616 < 18446744073709551616 := Nat.mod_lt _ (by decide)
      have hd : (if x < y + cc then 1 else 0) ≤ 1 := ite_le1 _
      generalize (x + 18446744073709551616 - y - cc) % 18446744073709551616 = s at *
      generalize (if x < y + cc then 1 else 0) = d at *
      have HPn : Hid ((o ++ [s]).length = i + 1 ∧ Wd (o ++ [s]) ∧ val (o ++ [s]) + val (lb.take (i + 1)) = val (la.take (i + 1)) + 18446744073709551616 ^ (i + 1) * d) := by
        obtain ⟨p1, p2, p3⟩ := HP.out
        refine ⟨by simp [p1], wd_app p2 hs, ?_⟩
        rw [HSA.out, HSB.out, val_app, p1, Nat.pow_succ]
        rw [val_one]
        exact sub_stepB p3 HS.out
      have hbs := HB.out.size
      have hi44 : i + 1 ≤ 17592186044416 := by omega
      clear hx hy hs hb
      have p1 : (0 ≤ (i : Int) ∧ (i : Int) < (n : Int)) = True := eq_true ⟨Int.natCast_nonneg _, hiI⟩
      go_wp2_with fail
      go_quiet ((go_at_call 20; with_reducible exact W2.out _))
      clear p1 e64 cx
      have hbs2 : w.heap.size ≤ (wr.drewN nq).heap.size := hbs
      go_wp2_with (at_builtin; go_must (refine push rfl _ _ 22 rfl w.heap.size 28 i0 (.int .u64 0) 8 Try.underlying22 hi0 hz0 hz1 hz2 rfl _ i ((castN o).map (Value.int .u64)) rfl (HO.out : (wr.drewN nq).ownsRow _ _ _ _ _ _) (.int .u64 s) wr.heap.size rfl rfl rfl (by decide) (by omega) hbs2 ?_))
      intro v5 w5 ho5 hg5
      have HB5 : Hid (Below w.heap.size w w5) := grown_below hg5 (HO.out : (wr.drewN nq).ownsRow _ _ _ _ _ _) (HB.out.drewN nq) (Nat.le_refl _) hbs2
      have HO5 : Hid (w5.ownsRow w.heap.size 28 1 v5 (i + 1) ((castN (o ++ [s])).map (Value.int .u64))) := by
        have e : (castN (o ++ [s])).map (Value.int .u64) = (castN o).map (Value.int .u64) ++ [.int .u64 (s : Int)] := by simp [castN]
        show World.ownsRow _ _ _ _ _ _ _
        rw [e]; exact ho5
      clear ho5 hg5
      go_wp2_with fail
      exact ⟨⟨i + 1, d, _, by omega, hd, by go_num, rfl, HPn.out, HO5.out, HB5.out⟩, by simp [intOf]; omega⟩
    · obtain rfl : i = n := by omega
      obtain ⟨p1, p2, p3⟩ := HP.out
      obtain ⟨av, kv, rfl, HTR⟩ := ends_any w.heap.size i _ o wr HO.out p2
      have HT := Lib.hid HTR
      have HVAL : Hid (val (trimL o) + val lb = val la) := by
        show _ = _
        rw [val_trimL]
        rw [HTA.out, HTB.out] at p3
        have h9 := val_lt p2
        rw [p1] at h9
        exact sub_end p3 h9 HLE.out
      have HCN : Hid (Canon (trimL o)) := trimL_canon p2
      clear HTR p1 p2 p3
      go_wp2_with fail
      refine HT.out.mono ?_
      rintro e w7 ⟨a', k, rfl, hk, hr, rfl⟩
      have HRR := Lib.hid hr
      clear hk hr
      go_wp2_with fail
      go_ret2
      exact ⟨HB.out, _, _, _, rfl, HRR.out, HCN.out, HVAL.out⟩
end Go.Proofs.Ytkaejoejaohpcaa
