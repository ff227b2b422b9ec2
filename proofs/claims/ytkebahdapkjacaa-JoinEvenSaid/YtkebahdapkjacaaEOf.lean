/- lotdrawerref.EOf: PASCAL's triangle. Condition: n is at most 60. -/
import Derived.Test.YtkebahdapkjacaaTab
import Derived.Test.YtkebahdapkjacaaPas
import Derived.BigRegion
set_option linter.unusedSimpArgs false
set_option linter.unusedVariables false
namespace Go.Proofs.Ytkebahdapkjacaa
open Go.RowKit
theorem Try.info3e : (Try.prog.info? 3).map (fun i => (i.zero, i.size, i.bytes)) = some (some (.int .i64 0), 1, 8) := by kernel_rfl
/-- The row behind row m, when p cells of row m are added in. -/
def nxt (m p j : Nat) : Int := (if j < p then (pas m j : Int) else 0) + (if 1 ≤ j ∧ j ≤ p then (pas m (j - 1) : Int) else 0)
theorem nxt_all (m j : Nat) : nxt m (m + 1) j = (pas (m + 1) j : Nat) := by
  unfold nxt
  cases j with
  | zero => simp [pas, pas_zero]
  | succ j =>
    have e := pas_out m
    by_cases h : j + 1 < m + 1
    · rw [if_pos h, if_pos (by omega)]; simp [pas]; omega
    · rw [if_neg h]
      by_cases h2 : j + 1 ≤ m + 1
      · rw [if_pos (by omega)]; simp [pas]; rw [e (j + 1) (by omega)]; rfl
      · rw [if_neg (by omega)]; simp [pas]; rw [e (j + 1) (by omega), e j (by omega)]; rfl
theorem nxt_step (m p j : Nat) : nxt m (p + 1) j = if j = p + 1 then nxt m p (p + 1) + (pas m p : Int) else if j = p then nxt m p p + (pas m p : Int) else nxt m p j := by
  unfold nxt
  by_cases h1 : j = p + 1
  · subst h1; rw [if_pos rfl, if_neg (by omega), if_pos (by omega), if_neg (by omega), if_neg (by omega)]; simp
  · rw [if_neg h1]
    by_cases h2 : j = p
    · subst h2
      rw [if_pos rfl, if_pos (by omega), if_neg (Nat.lt_irrefl j)]
      by_cases h3 : 1 ≤ j
      · rw [if_pos (by omega), if_pos (by omega)]; omega
      · rw [if_neg (by omega), if_neg (by omega)]; omega
    · rw [if_neg h2]
      by_cases h3 : j < p
      · rw [if_pos (by omega), if_pos h3]
        by_cases h4 : 1 ≤ j
        · rw [if_pos (by omega), if_pos (by omega)]
        · rw [if_neg (by omega), if_neg (by omega)]
      · rw [if_neg (by omega), if_neg h3, if_neg (by omega), if_neg (by omega)]
theorem nxt_bd (m p j : Nat) : 0 ≤ nxt m p j ∧ nxt m p j ≤ 2 * ((2 ^ m : Nat) : Int) := by
  unfold nxt
  have h1 := pas_le m j
  have h2 := pas_le m (j - 1)
  generalize 2 ^ m = q at *
  split <;> split <;> omega
theorem two_pow_le (m : Nat) (h : m ≤ 60) : (2 : Nat) ^ m ≤ 1152921504606846976 := by
  have := Nat.pow_le_pow_right (show 0 < 2 by omega) h
  simpa using this
set_option maxHeartbeats 800000 in
theorem EOf_any (n k : Nat) (hn : n ≤ 60) (w : World) : Calls Try.prog 9 #[.int .i64 n, .int .i64 k] w fun e w' => e = .returned (.int .i64 (pas n k : Nat)) ∧ Below w.heap.size w w' := by
  obtain ⟨i0, hi, hz0, hz1, hz2⟩ := info_parts Try.info3e
  go_enter Try.func9, Try.ntmps9
  go_wp2_with fail
  go_loopw [5, 11] (fun rv i wr => ∃ m : Nat, m ≤ n ∧ i = .int .i64 m ∧ Rd wr rv (tab (m + 1) (fun j => (pas m j : Nat))) ∧ Below w.heap.size w wr) (fun _ i _ => n - (intOf i).toNat)
  case atStart => exact ⟨0, Nat.zero_le _, rfl, Rd.built w [1] _ _ rfl 1 rfl (by decide), (Below.refl _ _).alloc (Nat.le_refl _) _⟩
  case round =>
    obtain ⟨m, hm, rfl, hrd, hbel⟩ := hrel
    have HRD := Lib.hid hrd
    obtain ⟨a, cap, rfl, hlc, hcm, hop⟩ := hrd.open
    rw [tab_len] at *
    clear hrd
    have HO := Lib.hid hop; clear hop
    by_cases hlt : m < n
    · go_wp2_with (refine wpList_make_full _ rfl _ _ 26 rfl wr.heap.size 3 i0 (.int .i64 0) 1 Try.underlying26 hi hz0 hz1 .i64 .i64 _ _ (m + 2) rfl rfl ?hL ?hC ?b2 ?b3 (Nat.le_refl _) ?_)
      case hL => go_num
      case hC => go_num
      case b2 => rw [hz2]; omega
      case b3 => unfold maxLen; omega
      intro w4 hown hgr
      have hB4 : Below wr.heap.size wr w4 := (Below.refl _ _).grown hgr (Nat.le_refl _) (fun k hk => by cases hk)
      clear hgr
      have ho := OT.made hown
      clear hown
      obtain ⟨b, off, rfl, hb, hc⟩ := HO.out 0 (by omega)
      have HC : Hid (∀ i, i < m + 1 → wr.cell? ⟨b, off + i, none⟩ = some (.int .i64 (pas m i : Nat))) := fun i hi => by
        have := hc i hi
        rwa [tab_get _ _ _ hi] at this
      clear hc HO
      have hs := hbel.size
      have HB := Lib.hid hbel; clear hbel
      have l1 := two_pow_le m (by omega)
      have HL := Lib.hid (fun j => pas_le m j)
      have HN := Lib.hid (fun p j => nxt_bd m p j)
      generalize 2 ^ m = q at *
      generalize hgg : wr.heap.size = g at *
      obtain ⟨wo, rfl⟩ : ∃ wo : World, wo = wr := ⟨_, rfl⟩
      have HGG := Lib.hid hgg; clear hgg
      go_wp2_with fail
      go_loopw [19] (fun i wi => ∃ p : Nat, p ≤ m + 1 ∧ i = .int .i64 p ∧ OT wi g g (m + 2) (nxt m p) ∧ Below g wo wi) (fun i _ => m + 1 - (intOf i).toNat)
      case atStart => exact ⟨0, Nat.zero_le _, rfl, ho.congr fun i hi => by unfold nxt; rw [if_neg (by omega), if_neg (by omega)]; rfl, hB4⟩
      case round =>
        clear ho hB4
        obtain ⟨p, hp, rfl, ho, hB⟩ := hrel
        by_cases hlp : p < m + 1
        · have c1 := HC.out p hlp
          have c1 : wr.cell? ⟨b, off + p, none⟩ = some (.int .i64 (pas m p : Nat)) := (World.cell?_of_block (w := wo) (hB.block b hb)).trans c1
          have c2 := ho.get p (by omega)
          have cf := ho.frozen p
          have HO2 := ho.set p (nxt m p p + (pas m p : Nat))
          have c3 := HO2.get (p + 1) (by omega)
          rw [if_neg (by omega)] at c3
          have cf3 := HO2.frozen (p + 1)
          have HO3 := Lib.hid (HO2.set (p + 1) (nxt m p (p + 1) + (pas m p : Nat)))
          have n1 := HN.out p p
          have n2 := HN.out p (p + 1)
          have n3 := HL.out p
          have HNX := Lib.hid (nxt_step m p)
          have HB3 := Lib.hid ((hB.setCell (Nat.le_refl _) (p := ⟨g, p, none⟩) (.int .i64 (nxt m p p + (pas m p : Nat)))).setCell (Nat.le_refl _) (p := ⟨g, p + 1, none⟩) (.int .i64 (nxt m p (p + 1) + (pas m p : Nat))))
          clear ho HO2 hB
          generalize hx : nxt m p p = x at *
          generalize hy : nxt m p (p + 1) = y at *
          generalize hz : pas m p = z at *
          have HX := Lib.hid hx; clear hx
          have HY := Lib.hid hy; clear hy
          have HZ := Lib.hid hz; clear hz
          go_wp2_with fail
          go_roundw
          case rel =>
            refine ⟨p + 1, by omega, by go_num, HO3.out.congr fun i hi => ?_, HB3.out⟩
            exact (HNX.out i).symm
          case measure => simp [intOf]; omega
        · obtain rfl : p = m + 1 := by omega
          have HO3 := Lib.hid (ho.congr fun i hi => nxt_all m i)
          have hB3 := Lib.hid hB
          clear ho hB
          go_wp2_with fail
          go_roundw
          case rel => exact ⟨m + 1, by omega, by go_num, HO3.out.rd, HB.out.trans (hB3.out.mono hs)⟩
          case measure => simp [intOf]; omega
    · obtain rfl : m = n := by omega
      have HB := Lib.hid hbel; clear hbel
      by_cases hk : k < m + 1
      · obtain ⟨b, off, rfl, hb, hc⟩ := HO.out k hk
        have c1 := hc k hk
        rw [tab_get _ _ _ hk] at c1
        clear hc
        have hk2 : ¬ ((m : Int) + 1 ≤ (k : Int)) := by omega
        generalize hx : pas m k = x at *
        have HX := Lib.hid hx; clear hx
        go_wp2_with fail
        go_ret
        exact ⟨by rw [HX.out]; rfl, HB.out⟩
      · have HZ : Hid (pas m k = 0) := pas_out m k (by omega)
        have hk2 : (m : Int) + 1 ≤ (k : Int) := by omega
        go_wp2_with fail
        go_ret
        exact ⟨by rw [HZ.out]; rfl, HB.out⟩
end Go.Proofs.Ytkebahdapkjacaa
