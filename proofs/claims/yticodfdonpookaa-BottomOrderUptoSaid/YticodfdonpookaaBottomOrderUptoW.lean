/- The walk of BottomOrder, lists of at most 2^20 numbers. -/
import Derived.Test.YticodfdonpookaaBottomLessW
import Derived.Test.YticodfdonpookaaClone
import Derived.Test.YticodfdonpookaaRev
set_option linter.unusedSimpArgs false
set_option linter.unusedVariables false
namespace Go.Proofs.Yticodfdonpookaa.bottomOrder
open Go.RowKit Go.Proofs.Yticodfdonpookaa
/-- The place of a pick. -/
theorem place_of (k : Int) (n : Nat) (h : 0 < n) : ∃ j : Nat, j < n ∧ (Int.tmod k n + n).tmod n = (j : Int) ∧ -(n : Int) < Int.tmod k n ∧ Int.tmod k n < n := by
  have h1 : -(n : Int) < Int.tmod k n ∧ Int.tmod k n < n := by
    have := Int.tmod_lt_of_pos k (show (0 : Int) < n by omega)
    have h2 : (Int.tmod k n).natAbs = k.natAbs % n := by rw [Int.natAbs_tmod]; simp
    have h3 := Nat.mod_lt k.natAbs h
    omega
  have h0 : 0 ≤ Int.tmod k n + n := by omega
  refine ⟨((Int.tmod k n + n).tmod n).toNat, ?_, ?_, h1⟩
  · have h2 := Int.tmod_lt_of_pos (Int.tmod k n + n) (show (0 : Int) < n by omega)
    have h3 := Int.tmod_nonneg (n : Int) h0
    omega
  · have h3 := Int.tmod_nonneg (n : Int) h0
    omega
set_option maxRecDepth 20000 in
set_option maxHeartbeats 3200000 in
theorem run (s : BitVec 64) (room : Int) (a1 a2 : Option Addr) (n1 n2 c1 c2 : Nat) (xs : List (BitVec 64)) (ps : List Int) (w : World) (h1 : Rd w (.slice a1 n1 c1) (us xs))
    (h2 : n2 ≤ c2 ∧ c2 ≤ 9223372036854775807 ∧ ∀ i, i < n2 → ∃ b off, a2 = some ⟨b, off, none⟩ ∧ b < w.heap.size ∧ ∀ i, i < n2 → w.cell? ⟨b, off + i, none⟩ = some (.int .i64 (ps.getD i 0)))
    (hpb : ∀ i, -9223372036854775808 ≤ ps.getD i 0 ∧ ps.getD i 0 ≤ 9223372036854775807)
    (b1 : n1 ≤ 1048576) (b2 : n2 ≤ 1048576) :
    Calls Try.prog 5 #[.int .u64 (U s), .int .i64 room, .slice a1 n1 c1, .slice a2 n2 c2] w fun e w' => e = .returned (.bool true) ∧ Below w.heap.size w w' := by
  obtain ⟨i0, hinfo, hz0, hz1, hz2⟩ := info_parts Try.info22t
  have LA := Lib.hid (fun v w1 zs (h : Rd w1 v (us zs)) => all_tot s room v zs w1 h)
  have hxl : (us xs).length = n1 := by obtain ⟨_, _, he, _⟩ := h1.open; injection he with _ e2 _; exact e2.symm
  obtain ⟨hc1, hm1⟩ : n1 ≤ c1 ∧ c1 ≤ 9223372036854775807 := by
    obtain ⟨_, _, he, g1, g2, -⟩ := h1.open
    injection he with _ q1 q2
    omega
  have HOP : Hid (∀ i, i < n1 → ∃ b off, a1 = some ⟨b, off, none⟩ ∧ b < w.heap.size ∧ ∀ i, i < n1 → w.cell? ⟨b, off + i, none⟩ = some (.int .u64 (U (xs.getD i 0#64)))) := fun i hi => by
    obtain ⟨a', c', he, -, -, ho⟩ := h1.open
    injection he with e1 e2 e3
    subst e1
    obtain ⟨b, off, g1, g2, g3⟩ := ho i (by omega)
    refine ⟨b, off, g1, g2, fun i hi => ?_⟩
    rw [g3 i (by omega), us_get]
  have HPK := Lib.hid h2.2.2
  have HPB := Lib.hid hpb
  have hp1 := h2.1
  have hp2 := h2.2.1
  have HRT : Hid (∀ w v, Rd w v (us (sk s room.toNat xs)) → (1 ≤ room ∧ room ≤ 400) → Calls Try.prog 15 #[.int .u64 (U s), .int .i64 room, v] w fun e w' => e = .returned (.bool true) ∧ Below w.heap.size w w') := fun w v h hr => by
    refine (right_any s room v _ w h hr (by have := sk_len s room.toNat xs; omega) (sk_asc _ _ _)).mono ?_
    rintro e w' ⟨rfl, q, rfl⟩
    exact ⟨rfl, (Below.refl _ _).drewN q⟩
  have H1 := Lib.hid h1
  have HXL := Lib.hid hxl
  obtain ⟨ss, hss⟩ : ∃ ss, U s = ss := ⟨_, rfl⟩
  rw [hss] at LA HRT ⊢
  clear h1 h2 hpb hxl hss
  go_enter Try.func5, Try.ntmps5
  go_wp2_with fail
  refine (alive_any w).mono ?_
  rintro e w1 ⟨rfl, hb1⟩
  have HB1 := Lib.hid hb1
  have R1 := Lib.hid (H1.out.below hb1 (Nat.le_refl _))
  clear hb1
  go_wp2_with fail
  refine (LA.out _ _ _ R1.out).mono ?_
  rintro e w2 ⟨⟨er1, a3, n3, c3, hg1, hn1, rfl⟩, hb2⟩
  have HB2 := Lib.hid (HB1.out.trans (hb2.mono HB1.out.size))
  have R2 := Lib.hid (R1.out.below hb2 (Nat.le_refl _))
  have HG1 := Lib.hid hg1
  have HN1 := Lib.hid hn1
  clear hb2 hg1 hn1 R1
  go_wp2_with fail
  refine (clone_any _ _ _ R2.out (by rw [HXL.out]; omega)).mono ?_
  rintro e w3 ⟨vm, rfl, ho3, hb3⟩
  rw [HXL.out] at ho3
  have HB3 := Lib.hid (HB2.out.trans (hb3.mono HB2.out.size))
  have HX3 := Lib.hid hb3
  have HO3 := Lib.hid ho3
  clear hb3 ho3 R2
  obtain ⟨B, hB⟩ : ∃ B, w2.heap.size = B := ⟨_, rfl⟩
  rw [hB] at HO3 HX3
  have HREV := Lib.hid (rev_ok vm n1 B (us xs) w3 HO3.out)
  go_wp2_with fail
  refine HREV.out.mono ?_
  rintro e w4 ⟨rfl, hb4, ho4⟩
  have HX4 := Lib.hid (HX3.out.trans hb4)
  have hwB : w.heap.size ≤ B := by rw [← hB]; exact HB2.out.size
  have HB4 := Lib.hid (HB3.out.trans (hb4.mono hwB))
  have HO4 : Hid (w4.ownsRow B 22 1 vm (xs.reverse).length ((us xs.reverse).map (Value.int .u64))) := by
    show World.ownsRow _ _ _ _ _ _ _
    have e : (xs.reverse).length = n1 := by rw [List.length_reverse, ← us_len, HXL.out]
    rw [e, show us xs.reverse = (us xs).reverse by simp [us]]
    exact ho4
  have hBw : B ≤ w4.heap.size := by have := HX4.out.size; omega
  have hBs : w2.heap.size ≤ B := by omega
  clear hb4 ho4 HREV HO3 HX3 hB
  go_wp2_with fail
  go_loopw [31, 11, 13] (fun iv mv _ wr => ∃ (j : Nat) (ms : List (BitVec 64)), j ≤ n2 ∧ iv = .int .i64 j ∧ Below w.heap.size w wr ∧ Below B w2 wr ∧ B ≤ wr.heap.size ∧ ms.length ≤ n1 + j ∧ wr.ownsRow B 22 1 mv ms.length ((us ms).map (Value.int .u64)) ∧ Hid (∀ x, x ∈ ms ↔ x ∈ xs)) (fun iv _ _ _ => n2 - (intOf iv).toNat)
  case atStart => exact ⟨0, xs.reverse, Nat.zero_le _, rfl, HB4.out, HX4.out, hBw, by rw [List.length_reverse, ← us_len, HXL.out]; omega, HO4.out, fun x => List.mem_reverse⟩
  case round =>
    clear HB4 HX4 HO4 hBw
    obtain ⟨j, ms, hj, rfl, hbel, hbx, hBw, hml, ho, hmem⟩ := hrel
    have HBE := Lib.hid hbel
    have HBX := Lib.hid hbx
    have HO := Lib.hid ho
    by_cases hlt : j < n2
    · obtain ⟨b, off, rfl, hb, hc⟩ := HPK.out j hlt
      have cx := (World.cell?_of_block (hbel.block b hb)).trans (hc j hlt)
      have hkb := HPB.out j
      obtain ⟨k, hk⟩ : ∃ k, ps.getD j 0 = k := ⟨_, rfl⟩
      rw [hk] at cx hkb
      clear hc hk hbel hbx ho
      by_cases h0 : 0 < n1
      · obtain ⟨p, hp, hpe, hq1, hq2⟩ := place_of k n1 h0
        obtain ⟨lb, lo, rfl, hlb, hlc⟩ := HOP.out p hp
        have cl := (World.cell?_of_block (HBE.out.block lb hlb)).trans (hlc p hp)
        have hn0 : ((n1 : Int) == 0) = false := by simp; omega
        have f1 : decide (0 < (n1 : Int)) = true := decide_eq_true (by omega)
        have hym : xs.getD p 0#64 ∈ xs := by
          rw [List.getD_eq_getElem?_getD, List.getElem?_eq_getElem (by rw [← us_len, HXL.out]; exact hp)]
          exact List.getElem_mem _
        have HMEM : Hid (∀ x, x ∈ ms ++ [xs.getD p 0#64] ↔ x ∈ xs) := fun x => by
          rw [List.mem_append, List.mem_singleton, hmem.out]
          exact ⟨fun h => h.elim id fun h => by rw [h]; exact hym, .inl⟩
        have HUS : Hid (us (ms ++ [xs.getD p 0#64]) = us ms ++ [U (xs.getD p 0#64)]) := by show _ = _; simp [us]
        generalize xs.getD p 0#64 = y at *
        clear hlc hym
        go_wp2_with (at_builtin; go_must (refine push rfl _ _ 23 rfl B 22 i0 (.int .u64 0) 8 Try.underlying23 hinfo hz0 hz1 hz2 rfl _ ms.length _ rfl HO.out (.int .u64 (U y)) _ rfl rfl rfl (by decide) (by omega) hBw ?_))
        intro mv' w5 hown5 hgr5
        have hb5 : Below B wr w5 := grown_below hgr5 HO.out (Below.refl _ _) (Nat.le_refl _) hBw
        have HB5 := Lib.hid (HBE.out.trans (hb5.mono hwB))
        have HX5 := Lib.hid (HBX.out.trans hb5)
        have hs5 := hb5.size
        have HO5 : Hid (w5.ownsRow B 22 1 mv' (ms ++ [y]).length ((us (ms ++ [y])).map (Value.int .u64))) := by
          show World.ownsRow _ _ _ _ _ _ _
          rw [HUS.out, List.map_append, List.length_append]
          exact hown5
        have HL5 : Hid ((ms ++ [y]).length = ms.length + 1) := by show _ = _; rw [List.length_append]; rfl
        clear hown5 hgr5 hb5 HUS
        go_wp2_with fail
        exact ⟨⟨j + 1, ms ++ [y], by omega, by go_num, HB5.out, HX5.out, by omega, by rw [HL5.out]; omega, HO5.out, HMEM⟩, by simp [intOf]; omega⟩
      · obtain rfl : n1 = 0 := by omega
        go_wp2_with fail
        exact ⟨⟨j + 1, ms, by omega, by go_num, HBE.out, HBX.out, hBw, by omega, HO.out, hmem⟩, by simp [intOf]; omega⟩
    · obtain rfl : j = n2 := by omega
      have hrm := Rd.own ho
      have HSK : Hid (sk s room.toNat ms = sk s room.toNat xs) := sk_congr _ hmem.out
      have HC := Lib.hid (LA.out _ _ _ hrm)
      clear ho hbel hbx hrm hmem
      go_wp2_with fail
      refine HC.out.mono ?_
      rintro e w5 ⟨⟨er2, a4, n4, c4, hg2, hn2, rfl⟩, hb5⟩
      have HB5 := Lib.hid (HBE.out.trans (hb5.mono HBE.out.size))
      have HX5 := Lib.hid (HBX.out.trans (hb5.mono hBw))
      by_cases hr : 1 ≤ room ∧ room ≤ 400
      · obtain ⟨rfl, -, l1, r1⟩ := HG1.out hr
        obtain ⟨rfl, -, l2, r2⟩ := hg2 hr
        rw [HSK.out] at r2
        have r1' := r1.below HX5.out hBs
        have HE : Hid (Calls Try.prog 12 #[.slice a3 n3 c3, .slice a4 n4 c4] w5 fun e w' => e = .returned (.bool true) ∧ Below w5.heap.size w5 w') := by
          refine (equal_any _ _ _ _ w5 r1' r2).mono ?_
          rintro e w' ⟨rfl, hb⟩
          rw [decide_eq_true rfl]
          exact ⟨rfl, hb⟩
        have HR1 := Lib.hid r1'
        clear r1 r2 hb5 hg2 hn2 l1 l2 r1' HC
        go_wp2_with fail
        refine HE.out.mono ?_
        rintro e w6 ⟨rfl, hb6⟩
        have HB6 := Lib.hid (HB5.out.trans (hb6.mono HB5.out.size))
        have HR2 := Lib.hid (HRT.out w6 _ (HR1.out.below hb6 (Nat.le_refl _)) hr)
        clear hb6
        go_wp2_with fail
        refine HR2.out.mono ?_
        rintro e w7 ⟨rfl, hb7⟩
        have HB7 := Lib.hid (HB6.out.trans (hb7.mono HB6.out.size))
        clear hb7
        go_wp2_with fail
        go_ret
        exact ⟨rfl, HB7.out⟩
      · obtain ⟨rfl, rfl, rfl, rfl⟩ := HN1.out hr
        obtain ⟨rfl, rfl, rfl, rfl⟩ := hn2 hr
        have HE : Hid (Calls Try.prog 12 #[.slice none 0 0, .slice none 0 0] w5 fun e w' => e = .returned (.bool true) ∧ Below w5.heap.size w5 w') := by
          refine (equal_any _ _ _ _ w5 (Rd.nil w5) (Rd.nil w5)).mono ?_
          rintro e w' ⟨rfl, hb⟩
          rw [decide_eq_true rfl]
          exact ⟨rfl, hb⟩
        clear hb5 hg2 hn2 HC
        go_wp2_with fail
        refine HE.out.mono ?_
        rintro e w6 ⟨rfl, hb6⟩
        have HB6 := Lib.hid (HB5.out.trans (hb6.mono HB5.out.size))
        clear hb6
        go_wp2_with fail
        go_ret
        exact ⟨rfl, HB6.out⟩
theorem walk (s room : Int) (a1 : Option Addr) (len1 cap1 : Nat) (z1 : List Int) (a2 : Option Addr) (len2 cap2 : Nat) (z2 : List Int) (w : World) (w0 : (Lit.int .u64 s).wf = true) (w1 : (Lit.int .i64 room).wf = true) (w2 : IsRow .u64 w a1 len1 cap1 z1) (r2 : len1 ≤ 1048576) (w3 : IsRow .i64 w a2 len2 cap2 z2) (r3 : len2 ≤ 1048576) :
    Calls Try.prog 5 #[.int .u64 s, .int .i64 room, .slice a1 len1 cap1, .slice a2 len2 cap2] w fun e w' => e = .returned (.bool true) ∧ Below w.heap.size w w' := by
  obtain ⟨xs, hx⟩ := us_of w2
  obtain ⟨h1, -⟩ := IsRow.rd w2
  obtain ⟨x, rfl⟩ := U_of w0
  rw [← hx] at h1
  refine run x room a1 a2 len1 len2 cap1 cap2 xs z2 w h1 ?_ ?_ r2 r3
  · rcases w3 with ⟨rfl, rfl, rfl, rfl⟩ | ⟨y, rfl, g1, g2, g3, g4, g5⟩
    · exact ⟨Nat.le_refl _, by omega, fun i hi => absurd hi (by omega)⟩
    · refine ⟨g1, by unfold maxLen at g2; exact g2, fun i hi => ?_⟩
      obtain ⟨b, off, rfl, hc⟩ := ints_at g4 (by omega)
      exact ⟨b, off, rfl, World.block_lt_of_cell? w _ (hc 0 (by omega)), fun i hi => hc i (by omega)⟩
  · intro i
    rcases w3 with ⟨rfl, rfl, rfl, rfl⟩ | ⟨y, rfl, g1, g2, g3, g4, g5⟩
    · simp
    · by_cases hi : i < z2.length
      · rw [List.getD_eq_getElem?_getD, List.getElem?_eq_getElem hi]
        exact bounds_i64 (g5 _ (List.getElem_mem hi))
      · rw [List.getD_eq_getElem?_getD, List.getElem?_eq_none (by omega)]
        simp
end Go.Proofs.Yticodfdonpookaa.bottomOrder
