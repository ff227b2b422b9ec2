/- combo.At: what it answers. No condition. -/
import Derived.Test.YtmiejokgjbnciaaRight
set_option linter.unusedSimpArgs false
set_option linter.unusedVariables false
namespace Go.Proofs.Ytmiejokgjbnciaa
open Go.RowKit
/-- Rising from place i on. -/
def Tail (n : Int) (f : Nat → Int) (i k : Nat) : Prop := ∀ j, i ≤ j → j < k → 0 ≤ f j ∧ f j < n ∧ (i < j → f (j - 1) < f j)
theorem tail_step {n : Int} {f : Nat → Int} {q k m : Nat} {x : Int} (h : Tail n f (q + 1) k) (h0 : 0 ≤ x) (h1 : x < n) (hm : q + 1 < k → f (q + 1) = m) (hx : x < m) : Tail n (fun i => if i = q then x else f i) q k := by
  intro j hj hjk
  show 0 ≤ (if j = q then x else f j) ∧ (if j = q then x else f j) < n ∧ (q < j → (if j - 1 = q then x else f (j - 1)) < (if j = q then x else f j))
  by_cases e : j = q
  · subst e
    rw [if_pos rfl]
    exact ⟨h0, h1, fun hh => by omega⟩
  · rw [if_neg e]
    obtain ⟨a, b, c⟩ := h j (by omega) hjk
    refine ⟨a, b, fun _ => ?_⟩
    by_cases e2 : j = q + 1
    · subst e2
      rw [if_pos (by omega), hm hjk]; exact hx
    · rw [if_neg (by omega)]; exact c (by omega)
theorem seg_step (f : Nat → Int) (q d : Nat) (x : Nat) : seg (fun i => if i = q then (x : Int) else f i) q (d + 1) = pas x (q + 1) + seg f (q + 1) d := by
  rw [seg, if_pos rfl, Int.toNat_natCast]
  congr 1
  exact seg_congr d (q + 1) fun j h1 h2 => by rw [if_neg (by omega)]
set_option maxHeartbeats 1600000 in
theorem at_ok (n k r : Nat) (hn : n ≤ 60) (hr : r < pas n k) (w : World) : Calls Try.prog 11 #[.int .i64 n, .int .i64 k, .int .i64 r] w fun e w' =>
    ∃ g f, e = .returned (.tuple #[.slice (some ⟨g, 0, none⟩) k k, .int .i64 0]) ∧ OT w' w.heap.size g k f ∧ Rising n f k ∧ rkf f k = r ∧ Below w.heap.size w w' := by
  have hkn : k ≤ n := by
    rcases Nat.lt_or_ge n k with h | h
    · rw [pas_out n k h] at hr; omega
    · exact h
  obtain ⟨i0, hi, hz0, hz1, hz2⟩ := info_parts Try.info3t
  have H0 := Lib.hid (of_p n k hn)
  have HP := Lib.hid (fun x i hx => of_p x i (show x ≤ 60 from hx))
  have HR := Lib.hid hr
  have hr' : ¬ ((pas n k : Nat) : Int) ≤ (r : Int) := by omega
  have hpb := pas_bd n k hn
  clear hr
  generalize hP : pas n k = P at *
  have HPP := Lib.hid hP; clear hP
  go_enter Try.func11, Try.ntmps11
  go_wp2_with fail
  refine (H0.out _).mono ?_
  rintro e w1 ⟨rfl, hb1⟩
  have hs1 := hb1.size
  go_wp2_with (refine wpList_make_full _ rfl _ _ 30 rfl w1.heap.size 3 i0 (.int .i64 0) 1 Try.underlying30 hi hz0 hz1 .i64 .i64 _ _ k rfl rfl rfl rfl ?b2 ?b3 (Nat.le_refl _) ?_)
  case b2 => rw [hz2]; omega
  case b3 => unfold maxLen; omega
  intro w4 hown hgr
  have hB4 : Below w.heap.size w w4 := hb1.grown hgr hs1 (fun k hk => by cases hk)
  clear hgr hb1
  have ho := OT.made hown
  clear hown
  generalize w1.heap.size = g at *
  clear w1
  have HO := Lib.hid (ho.base hs1)
  have HB := Lib.hid hB4
  clear ho hB4
  go_wp2_with fail
  go_loopw [2, 9] (fun rv iv wr => ∃ (i m r' : Nat) (f : Nat → Int), i ≤ k ∧ m ≤ n ∧ iv = .int .i64 ((i : Int) - 1) ∧ rv = .int .i64 r' ∧ r' < pas m i ∧ Hid (i < k → f i = m) ∧ Hid (Tail n f i k) ∧ Hid (r' + seg f i (k - i) = r) ∧ OT wr w.heap.size g k f ∧ Below w.heap.size w wr) (fun _ iv _ => (intOf iv + 1).toNat)
  case atStart => exact ⟨k, n, r, _, Nat.le_refl _, Nat.le_refl _, rfl, rfl, by rw [HPP.out]; exact HR.out, fun h => by omega, fun j h1 h2 => by omega, by show _ = _; rw [Nat.sub_self]; rfl, HO.out, HB.out⟩
  case round =>
    clear HO HB HR HPP H0 hr' hpb
    obtain ⟨i, m, r', f, hik, hmn, rfl, rfl, hlt, hfm, htl, hsum, ho, hbel⟩ := hrel
    have HT := Lib.hid hlt; clear hlt
    cases i with
    | zero =>
      rw [show ((0 : Nat) : Int) - 1 = -1 from rfl]
      have HE : Hid (rkf f k = r) := by
        show _ = _
        have h1 := HT.out
        rw [pas_zero] at h1
        have h2 := hsum.out
        have h3 := seg_rkf f k 0
        rw [Nat.zero_add, Nat.sub_zero] at *
        rw [← h3, rkf]; omega
      have HRI : Hid (Rising n f k) := fun j hj => htl.out j (by omega) hj
      clear HT hfm htl hsum
      go_wp2_with fail
      go_ret2
      exact ⟨g, f, rfl, ho, HRI.out, HE.out, hbel⟩
    | succ q =>
      rw [show ((q + 1 : Nat) : Int) - 1 = (q : Int) by omega]
      have hqm : q < m := by
        rcases Nat.lt_or_ge m (q + 1) with h | h
        · have h1 := HT.out; rw [pas_out m (q + 1) h] at h1; omega
        · omega
      go_wp2_with fail
      obtain ⟨wo, rfl⟩ : ∃ wo : World, wo = wr := ⟨_, rfl⟩
      go_loopw [10] (fun xv wi => ∃ x : Nat, q ≤ x ∧ x < m ∧ xv = .int .i64 x ∧ Hid (pas x (q + 1) ≤ r') ∧ OT wi w.heap.size g k f ∧ Below w.heap.size w wi) (fun xv _ => n - (intOf xv).toNat)
      case atStart => exact ⟨q, Nat.le_refl _, hqm, rfl, by show _ ≤ _; rw [pas_out q (q + 1) (by omega)]; exact Nat.zero_le _, ho, hbel⟩
      case round =>
        clear ho hbel
        obtain ⟨x, hqx, hxm, rfl, hpx, ho, hbel⟩ := hrel
        have H1 := Lib.hid (HP.out (x + 1) (q + 1) (by omega))
        have H2 := Lib.hid (HP.out x (q + 1) (by omega))
        have s0 := hbel.size
        by_cases hc : pas (x + 1) (q + 1) ≤ r'
        · have hxm2 : x + 1 < m := by
            rcases Nat.lt_or_ge (x + 1) m with h | h
            · exact h
            · have h1 := pas_mono m (x + 1) (q + 1) h
              have h2 := HT.out
              omega
          have hc' : ((pas (x + 1) (q + 1) : Nat) : Int) ≤ (r' : Int) := by omega
          have HC := Lib.hid hc; clear hc
          generalize hy : pas (x + 1) (q + 1) = y at *
          have HY := Lib.hid hy; clear hy
          go_wp2_with fail
          refine (H1.out _).mono ?_
          rintro e w2 ⟨rfl, hb2⟩
          have HO2 := Lib.hid (ho.below hb2 (Nat.le_refl _))
          have HB2 := Lib.hid (hbel.trans (hb2.mono s0))
          clear ho hbel hb2
          go_wp2_with fail
          go_roundw
          case rel => exact ⟨x + 1, by omega, hxm2, by go_num, by show _ ≤ _; rw [HY.out]; exact HC.out, HO2.out, HB2.out⟩
          case measure => simp [intOf]; omega
        · have hc' : ¬ ((pas (x + 1) (q + 1) : Nat) : Int) ≤ (r' : Int) := by omega
          have HLT : Hid (r' - pas x (q + 1) < pas x q) := by
            show _ < _
            rw [pas_succ] at hc
            have := hpx.out
            omega
          have HTL : Hid (Tail n (fun i => if i = q then (x : Int) else f i) q k) := tail_step htl.out (by omega) (by omega) (fun h => hfm.out h) (by omega)
          have HSUM : Hid (r' - pas x (q + 1) + seg (fun i => if i = q then (x : Int) else f i) q (k - q) = r) := by
            show _ = _
            have h1 := hsum.out
            rw [show k - q = (k - (q + 1)) + 1 by omega, seg_step]
            have := hpx.out
            omega
          have HPX := Lib.hid (show ((r' - pas x (q + 1) : Nat) : Int) = (r' : Int) - (pas x (q + 1) : Nat) by have := hpx.out; omega)
          have hpx2 := hpx.out
          have hrb : r' ≤ 1152921504606846976 := by have := HT.out; have := pas_bd m (q + 1) (by omega); omega
          clear hc
          generalize pas (x + 1) (q + 1) = y at *
          go_wp2_with fail
          refine (H1.out _).mono ?_
          rintro e w2 ⟨rfl, hb2⟩
          have ho2 := ho.below hb2 (Nat.le_refl _)
          have hbel2 := hbel.trans (hb2.mono s0)
          have s2 := hbel2.size
          have c0 := ho2.get q (by omega)
          have cf := ho2.frozen q
          have HO3 := Lib.hid (ho2.set q x)
          have HB3 := Lib.hid (hbel2.setCell hs1 (p := ⟨g, q, none⟩) (.int .i64 (x : Int)))
          have HS3 : Hid (∀ v, (w2.setCell ⟨g, q, none⟩ v).heap.size = w2.heap.size) := fun v => World.size_setCell _ _ _
          clear ho hbel hb2 ho2 hbel2
          go_wp2_with fail
          refine (H2.out _).mono ?_
          rintro e w3 ⟨rfl, hb3⟩
          have HO4 := Lib.hid (HO3.out.below hb3 (Nat.le_refl _))
          have HB4 := Lib.hid (HB3.out.trans (hb3.mono (by rw [HS3.out]; exact s2)))
          clear hb3 HO3 HB3
          generalize hp : pas x (q + 1) = p at *
          clear hp
          go_wp2_with fail
          go_roundw
          case rel => exact ⟨q, x, r' - p, _, by omega, by omega, by go_num, by rw [HPX.out], HLT.out, fun h => by show (if q = q then (x : Int) else f q) = x; rw [if_pos rfl], HTL.out, HSUM.out, HO4.out, HB4.out⟩
          case measure => simp [intOf]
theorem at_none (n k r : Int) (h0 : 0 ≤ n) (h1 : n ≤ 60) (h2 : 0 ≤ k) (h3 : 0 ≤ r) (hr : pas n.toNat k.toNat ≤ r.toNat) (w : World) : Calls Try.prog 11 #[.int .i64 n, .int .i64 k, .int .i64 r] w fun e w' =>
    e = .returned (.tuple #[.slice none 0 0, .int .i64 3]) ∧ Below w.heap.size w w' := by
  have H0 : Hid (∀ w, Calls Try.prog 17 #[.int .i64 n, .int .i64 k] w fun e w' => e = .returned (.int .i64 (pas n.toNat k.toNat : Nat)) ∧ Below w.heap.size w w') := fun w => by
    have := of_p n.toNat k.toNat (by omega) w
    rwa [show ((n.toNat : Nat) : Int) = n by omega, show ((k.toNat : Nat) : Int) = k by omega] at this
  have hr' : ((pas n.toNat k.toNat : Nat) : Int) ≤ r := by omega
  clear hr
  generalize pas n.toNat k.toNat = P at *
  go_enter Try.func11, Try.ntmps11
  go_wp2_with fail
  refine (H0.out _).mono ?_
  rintro e w1 ⟨rfl, hb1⟩
  go_wp2_with fail
  go_ret2
  exact ⟨rfl, hb1⟩
theorem at_bad (n k r : Int) (h : n < 0 ∨ 60 < n ∨ k < 0 ∨ r < 0) (w : World) : Calls Try.prog 11 #[.int .i64 n, .int .i64 k, .int .i64 r] w fun e w' =>
    e = .returned (.tuple #[.slice none 0 0, .int .i64 2]) ∧ Below w.heap.size w w' := by
  rcases h with h | h | h | h
  all_goals
    go_enter Try.func11, Try.ntmps11
    go_wp2_with fail
    all_goals
      go_ret2
      exact ⟨rfl, Below.refl _ _⟩
/-- What At answers. -/
def AtPost (n k r : Int) (w : World) (e : Ending) (w' : World) : Prop :=
  Below w.heap.size w w' ∧
  ((∃ v zs, e = .returned (.tuple #[v, .int .i64 0]) ∧ Rd w' v zs ∧ zs.length = k.toNat ∧ RightP n zs ∧ (rk zs : Int) = r ∧ 0 ≤ k) ∨
   (∃ c : Int, 0 < c ∧ e = .returned (.tuple #[.slice none 0 0, .int .i64 c]) ∧ ¬ (0 ≤ n ∧ n ≤ 60 ∧ 0 ≤ k ∧ 0 ≤ r ∧ r.toNat < pas n.toNat k.toNat)))
theorem at_any (n k r : Int) (w : World) : Calls Try.prog 11 #[.int .i64 n, .int .i64 k, .int .i64 r] w (AtPost n k r w) := by
  by_cases h : n < 0 ∨ 60 < n ∨ k < 0 ∨ r < 0
  · exact (at_bad n k r h w).mono fun e w' ⟨he, hb⟩ => ⟨hb, .inr ⟨2, by decide, he, by omega⟩⟩
  · by_cases hr : pas n.toNat k.toNat ≤ r.toNat
    · exact (at_none n k r (by omega) (by omega) (by omega) (by omega) hr w).mono fun e w' ⟨he, hb⟩ => ⟨hb, .inr ⟨3, by decide, he, by omega⟩⟩
    · have := at_ok n.toNat k.toNat r.toNat (by omega) (by omega) w
      rw [show ((n.toNat : Nat) : Int) = n by omega, show ((k.toNat : Nat) : Int) = k by omega, show ((r.toNat : Nat) : Int) = r by omega] at this
      refine this.mono ?_
      rintro e w' ⟨g, f, he, ho, h1, h2, hb⟩
      refine ⟨hb, .inl ⟨_, tab k.toNat f, he, ho.rd, tab_len _ _, right_tab (by omega) (by omega) h1, ?_, by omega⟩⟩
      rw [rk_tab, h2]; omega
end Go.Proofs.Ytmiejokgjbnciaa
