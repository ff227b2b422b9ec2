/- What PoolEven does with a pool: it counts its set. No condition. -/
import Derived.Test.YtimknmofcnhbpaaMap
set_option linter.unusedSimpArgs false
set_option linter.unusedVariables false
namespace Go.Proofs.Ytimknmofcnhbpaa
open Go.RowKit Go.Maps
theorem grown_trans {a b c : World} {r : Option Nat} (h1 : a.grownBy b r) (h2 : b.grownBy c r) : a.grownBy c r :=
  ⟨h2.os.trans h1.os, h2.tape.trans h1.tape, h2.output.trans h1.output, Nat.le_trans h1.size h2.size, fun i hi hr => (h2.block i (Nat.lt_of_lt_of_le hi h1.size) hr).trans (h1.block i hi hr)⟩
theorem ofN64 (a : Nat) (ha : a < 9223372036854775808) : (BitVec.ofInt 64 (a : Int)).toNat = a := by
  rw [BitVec.ofInt_natCast, BitVec.toNat_ofNat]; exact Nat.mod_eq_of_lt (by omega)
theorem or64 (a b : Nat) (ha : a < 4611686018427387904) (hb : b < 4611686018427387904) : bits .or .i64 (a : Int) (b : Int) = ((a ||| b : Nat) : Int) := by
  have hx : a ||| b < 2 ^ 62 := Nat.or_lt_two_pow (by omega) (by omega)
  show IntKind.i64.wrap ((BitVec.ofInt 64 (a : Int) ||| BitVec.ofInt 64 (b : Int)).toNat : Int) = _
  rw [BitVec.toNat_or, ofN64 a (by omega), ofN64 b (by omega), IntKind.wrap_i64]
  omega
theorem or64s (a b : Nat) (ha : a < 1048576) (hb : b < 1048576) : bits .or .i64 (a : Int) (b : Int) = ((a ||| b : Nat) : Int) := or64 a b (by omega) (by omega)
theorem setN_lt : ∀ (zs : List Nat) (s : Nat), (∀ z ∈ zs, z < 20) → s < 2 ^ 20 → setN zs s < 2 ^ 20
  | [], s, _, h => h
  | x :: r, s, hz, h => setN_lt r _ (fun z hz' => hz z (List.mem_cons_of_mem _ hz')) (Nat.or_lt_two_pow h (Nat.pow_lt_pow_right (by omega) (hz x List.mem_cons_self)))
theorem setN_take : ∀ (zs : List Nat) (s i : Nat), i < zs.length → setN (zs.take (i + 1)) s = setN (zs.take i) s ||| 2 ^ (zs.getD i 0)
  | [], _, _, h => absurd h (Nat.not_lt_zero _)
  | x :: r, s, 0, _ => by simp [setN]
  | x :: r, s, i + 1, h => by
    rw [List.take_succ_cons, List.take_succ_cons, List.getD_cons_succ]
    exact setN_take r _ i (by simpa using h)
theorem getD_cast (zs : List Nat) (i : Nat) : (zs.map (fun z : Nat => (z : Int))).getD i 0 = ((zs.getD i 0 : Nat) : Int) := by
  rw [List.getD_eq_getElem?_getD, List.getElem?_map, List.getD_eq_getElem?_getD]
  cases zs[i]? <;> rfl
set_option maxHeartbeats 1600000 in
set_option maxRecDepth 20000 in
theorem look_ok (r c : Int) (hv : Value) (zs : List Nat) (w : World) (Bc mb n : Nat) (L : List (Nat × Nat)) (h : Rd w hv (zs.map (fun z : Nat => (z : Int)))) (hz : ∀ z ∈ zs, z < 20) (hl : zs.length ≤ 20)
    (hB : w.heap[Bc]? = some (.cells #[.map (some mb)] 23 (0, 0))) (hM : MC w mb n L) (hn : n < 1000000) (hL : ∀ x, lk L x < 1000000) :
    Calls Try.prog 9 #[.agg #[.int .i64 r, .int .i64 c, hv], .pointer (some ⟨Bc, 0, none⟩)] w fun e w' => e = .returned (.tuple #[]) ∧ MC w' mb (n + 1) (bump L (setN zs 0) 1) ∧ w.grownBy w' (some mb) := by
  obtain ⟨a, k, rfl, hk1, hk2⟩ := h.slice
  have HR := Lib.hid h
  have HS0 : Hid (setN (zs.take 0) 0 = 0) := rfl
  have HZ := Lib.hid hz
  rw [List.length_map] at HR hk1 ⊢
  obtain ⟨m, hm⟩ : ∃ m, zs.length = m := ⟨_, rfl⟩
  have HLN := Lib.hid hm
  rw [hm] at HR hk1 hl ⊢
  unfold maxLen at hk2
  have HC := Lib.hid (cell_of_one hB)
  have HCF := Lib.hid hB
  have HM := Lib.hid hM
  have HLL := Lib.hid hL
  have hBl : Bc < w.heap.size := (Array.getElem?_eq_some_iff.1 hB).1
  clear h hz hB hM hL hm
  go_enter Try.func9, Try.ntmps9
  go_wp2_with fail
  go_loop [9, 3] (fun iv sv => ∃ i : Nat, i ≤ m ∧ iv = .int .i64 i ∧ sv = .int .i64 (setN (zs.take i) 0 : Nat)) (fun iv _ => m - (intOf iv).toNat)
  case atStart => exact ⟨0, Nat.zero_le _, rfl, by rw [HS0.out]; rfl⟩
  case round =>
    obtain ⟨i, him, rfl, rfl⟩ := hrel
    by_cases hlt : i < m
    · obtain ⟨b, off, rfl, hb, cl⟩ := HR.out.at hlt
      rw [getD_cast] at cl
      have hz20 : zs.getD i 0 < 20 := HZ.out _ (by
        have : i < zs.length := by rw [HLN.out]; exact hlt
        rw [List.getD_eq_getElem?_getD, List.getElem?_eq_getElem this]; exact List.getElem_mem _)
      have HST := Lib.hid (setN_take zs 0 i (by rw [HLN.out]; exact hlt))
      have hs := setN_lt (zs.take i) 0 (fun z hz => HZ.out z (List.mem_of_mem_take hz)) (by decide)
      generalize zs.getD i 0 = z at *
      generalize setN (zs.take i) 0 = s at *
      go_wp2_with fail
      refine ⟨⟨i + 1, by omega, by go_num, ?_⟩, by simp [intOf]; omega⟩
      have h2 : (2 : Int) ^ z = ((2 ^ z : Nat) : Int) := by rw [Int.natCast_pow]; rfl
      have h3 : 2 ^ z < 1048576 := Nat.pow_lt_pow_right (by omega) hz20
      have hs' : s < 1048576 := hs
      rw [h2, HST.out]
      clear hs h2 HST
      generalize (2 ^ z : Nat) = t at *
      have h4 : wrap64 (t : Int) = (t : Int) := by
        unfold wrap64
        omega
      rw [h4, or64s s t hs' h3]
    · obtain rfl : i = m := by omega
      have hs : setN zs 0 < 1048576 := setN_lt zs 0 (fun z hz => HZ.out z hz) (by decide)
      have HT : Hid (zs.take i = zs) := List.take_of_length_le (by rw [HLN.out]; exact Nat.le_refl _)
      rw [HT.out]
      obtain ⟨s, hsn⟩ : ∃ s, setN zs 0 = s := ⟨_, rfl⟩
      have HSN := Lib.hid hsn
      rw [hsn] at hs ⊢
      clear hsn
      obtain ⟨D, hD1, hD2, hD3, hD4, hD5⟩ := HM.out
      have HD2 := Lib.hid hD2
      have HD3 := Lib.hid hD3
      have HD4 := Lib.hid hD4
      have HD5 := Lib.hid hD5
      have HD1 := Lib.hid (hD1.alloc (.cells #[.int .i64 r, .int .i64 c, .slice a i k] 27))
      have hlk := HLL.out (s : Int)
      have hc := HC.out
      have hkey : keyOf Try.prog 3 (.int .i64 s) = some (.int .i64 s) := keyOf_int_mk Try.underlying3 (Go.WalkArith.wf_i64 (by omega))
      have HKEY := Lib.hid hkey
      clear hD1 hD2 hD3 hD4 hD5 hkey
      go_wp2_with (at_lookup; go_must (refine wpList_lookup_own_int _ rfl _ _ 23 rfl 3 3 .i64 key3 Try.underlying23 Try.underlying3 (zero3 _) mb n D rfl HD1.out _ _ rfl HKEY.out ?_))
      intro cc hat hwf
      have hcc : cc = lk L s := by
        have := HD3.out s
        rw [hat] at this
        simpa using this
      subst hcc
      have hwr : IntKind.i64.wrap ((lk L s : Int) + 1) = ((lk L s + 1 : Nat) : Int) := by rw [IntKind.wrap_i64]; omega
      clear hat hwf
      go_wp2_with (at_mapUpdate; go_must (refine wpList_mapUpdate_own _ rfl _ _ _ 23 rfl 3 3 key3 Try.underlying23 _ mb n D rfl HD1.out (by unfold maxLen; omega) _ _ _ rfl rfl HKEY.out _ [] (plainElem_int Try.underlying3 (Go.WalkArith.wf_i64 (by omega))) ?_))
      intro w1 ho1 hg1
      go_wp2_with fail
      go_end0
      exact ⟨rfl, by rw [HSN.out]; exact MC.put HD2.out HD3.out HD4.out HD5.out (by rw [Int.natCast_add]; exact ho1), grown_trans (World.grownBy_alloc w _ _) hg1⟩
end Go.Proofs.Ytimknmofcnhbpaa
