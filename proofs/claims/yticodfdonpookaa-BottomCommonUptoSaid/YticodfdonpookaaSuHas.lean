/- slices.Contains at []uint64; what Compact leaves of an ascending row. No condition. -/
import Derived.Test.YticodfdonpookaaSuSorted
import Derived.Test.YticodfdonpookaaJoin0
set_option linter.unusedSimpArgs false
set_option linter.unusedVariables false
set_option maxRecDepth 20000
namespace Go.Proofs.Yticodfdonpookaa.Su
open Go.RowKit Go.Proofs.Yticodfdonpookaa
theorem take_mem (zs : List Int) (k : Nat) (x : Int) (h : k < zs.length) (hz : x ∉ zs.take k) (hk : x ≠ zs.getD k 0) : x ∉ zs.take (k + 1) := by
  rw [List.take_add_one, List.getElem?_eq_getElem h]
  rw [List.getD_eq_getElem?_getD, List.getElem?_eq_getElem h] at hk
  simp only [Option.toList, List.mem_append, List.mem_singleton]
  rintro (h | h)
  · exact hz h
  · exact hk h
theorem idx_any (v : Value) (zs : List Int) (x : Int) (w : World) (h : Rd w v zs) : Calls Try.prog 34 #[v, .int .u64 x] w fun e w' => (∃ r : Int, e = .returned (.int .i64 r) ∧ (0 ≤ r ↔ x ∈ zs)) ∧ w' = w := by
  obtain ⟨a, cap, rfl, hlc, hcm, hop⟩ := h.open
  obtain ⟨n, hn⟩ : ∃ n, zs.length = n := ⟨_, rfl⟩
  have HN := Lib.hid hn
  rw [hn] at hop hlc ⊢
  have HO := Lib.hid hop
  clear h hop hn
  go_enter Try.func34, Try.ntmps34
  go_wp2_with fail
  go_loopw [8] (fun iv wr => ∃ k : Nat, iv = .int .i64 (k : Int) ∧ k ≤ n ∧ Hid (x ∉ zs.take k) ∧ Hid (wr = w)) (fun iv _ => n - (intOf iv).toNat)
  case atStart => exact ⟨0, rfl, Nat.zero_le _, by show _ ∉ _; simp, rfl⟩
  case round =>
    obtain ⟨k, rfl, hk, HX, HQ⟩ := hrel
    by_cases hkn : k < n
    · have hknI : (k : Int) < (n : Int) := by omega
      obtain ⟨b, off, rfl, hb, hc⟩ := HO.out k hkn
      have hq := HQ.out
      have c0 : wr.cell? ⟨b, off + k, none⟩ = some (.int .u64 (zs.getD k 0)) := by rw [hq]; exact hc k hkn
      have HT := Lib.hid (fun hne => take_mem zs k x (by rw [HN.out]; exact hkn) HX.out hne)
      have HM : Hid (zs.getD k 0 ∈ zs) := by
        show _ ∈ _
        rw [List.getD_eq_getElem?_getD, List.getElem?_eq_getElem (by rw [HN.out]; exact hkn)]
        exact List.getElem_mem _
      clear hq hc HO
      generalize zs.getD k 0 = y at *
      by_cases hxy : x = y
      · subst hxy
        go_wp2_with fail
        go_ret
        exact ⟨⟨k, rfl, ⟨fun _ => HM.out, fun _ => by omega⟩⟩, HQ.out⟩
      · have hxyB : (x == y) = false := beq_eq_false_iff_ne.mpr hxy
        go_wp2_with fail
        go_roundw
        case rel => exact ⟨k + 1, by go_num, by omega, HT.out hxy, HQ.out⟩
        case measure => simp [intOf]; omega
    · have hknI : ¬ (k : Int) < (n : Int) := by omega
      have HD : Hid (x ∉ zs) := by
        have := HX.out
        rwa [List.take_of_length_le (by rw [HN.out]; omega)] at this
      go_wp2_with fail
      go_ret
      exact ⟨⟨-1, rfl, ⟨fun h => by omega, fun h => absurd h HD.out⟩⟩, HQ.out⟩
theorem has_any (v : Value) (zs : List Int) (x : Int) (w : World) (h : Rd w v zs) : Calls Try.prog 22 #[v, .int .u64 x] w fun e w' => e = .returned (.bool (decide (x ∈ zs))) ∧ w' = w := by
  have HC := Lib.hid (idx_any v zs x w h)
  obtain ⟨a, cap, rfl, -⟩ := h.open
  clear h
  go_enter Try.func22, Try.ntmps22
  go_wp2_with fail
  refine HC.out.mono ?_
  rintro e w1 ⟨⟨r, rfl, hr⟩, hq⟩
  have HR := Lib.hid hr
  have HQ := Lib.hid hq
  clear hr hq HC
  go_wp2_with fail
  go_ret
  exact ⟨congrArg (fun b => Ending.returned (Value.bool b)) (decide_eq_decide.2 HR.out), HQ.out⟩
/-- How many of a list are in both of two others. -/
def both (l p q : List (BitVec 64)) : Nat := (l.filter fun z => decide (z ∈ p) && decide (z ∈ q)).length
theorem us_mem (z : BitVec 64) (l : List (BitVec 64)) : U z ∈ us l ↔ z ∈ l := by
  unfold us
  rw [List.mem_map]
  exact ⟨fun ⟨y, h, e⟩ => U_inj.1 e ▸ h, fun h => ⟨z, h, rfl⟩⟩
theorem both_step (l p q : List (BitVec 64)) (k : Nat) (h : k < l.length) : both (l.take (k + 1)) p q = both (l.take k) p q + if (decide (l.getD k 0#64 ∈ p) && decide (l.getD k 0#64 ∈ q)) = true then 1 else 0 := by
  unfold both
  rw [take_sU l k h, List.filter_append, List.length_append]
  congr 1
  rw [List.filter_cons]
  split <;> rfl
set_option maxHeartbeats 1600000 in
theorem common_any (s : BitVec 64) (room : Int) (v v' : Value) (xs ys : List (BitVec 64)) (w : World) (h1 : RdN w v xs) (h2 : RdN w v' ys) (hr : 1 ≤ room ∧ room ≤ 400) (l1 : (xs.length : Int) ≤ room) (l2 : (ys.length : Int) ≤ room) (hx : Asc s xs) (hy : Asc s ys) :
    Calls Try.prog 18 #[.int .u64 (U s), .int .i64 room, v, v'] w fun e w' => e = .returned (.tuple #[.int .i64 (both (sk s room.toNat (xs ++ ys)) xs ys : Nat), .int .i64 ((sk s room.toNat (xs ++ ys)).length : Nat), .int .i64 0]) ∧ Below w.heap.size w w' := by
  have HJ := Lib.hid (join_tot s room v v' xs ys w h1 h2 hr l1 l2 hx hy)
  have hlen := sk_len s room.toNat (xs ++ ys)
  generalize sk s room.toNat (xs ++ ys) = L at *
  have hLr : L.length ≤ 400 := by omega
  have H1 := Lib.hid h1
  have H2 := Lib.hid h2
  clear hlen h1 h2 hx hy l1 l2
  obtain ⟨n, hn⟩ : ∃ n, L.length = n := ⟨_, rfl⟩
  rw [hn] at hLr
  have HV : Hid (∃ a c, v = .slice a xs.length c) := by
    obtain ⟨a, n, c, h, -, e, -⟩ := H1.out
    exact ⟨a, c, by rw [e]; exact h⟩
  have HN := Lib.hid hn
  rw [hn]
  clear hn
  go_enter Try.func18, Try.ntmps18
  go_wp2_with fail
  refine HJ.out.mono ?_
  rintro e w1 ⟨⟨r, rfl, hr1⟩, hb⟩
  have HB := Lib.hid hb
  have G1 := Lib.hid (H1.out.below hb (Nat.le_refl _))
  have G2 := Lib.hid (H2.out.below hb (Nat.le_refl _))
  obtain ⟨a, m, c, rfl, -, hm, hrd⟩ := hr1
  rw [HN.out] at hm
  subst hm
  have hus : (us L).length = n := by rw [us_len, HN.out]
  obtain ⟨a2, c2, he, hlc, hcm, hop⟩ := hrd.open
  injection he with e1 e2 e3
  subst e1
  subst e3
  rw [hus] at hop hlc
  have HO := Lib.hid hop
  have HC1 : Hid (∀ (x : Int) (W : World), W = w1 → Calls Try.prog 22 #[v, .int .u64 x] W fun e w' => e = .returned (.bool (decide (x ∈ us xs))) ∧ w' = W) := fun x W hW => by
    obtain ⟨a, n, c, rfl, -, -, h⟩ := G1.out
    subst hW
    exact has_any _ _ x _ h
  have HC2 : Hid (∀ (x : Int) (W : World), W = w1 → Calls Try.prog 22 #[v', .int .u64 x] W fun e w' => e = .returned (.bool (decide (x ∈ us ys))) ∧ w' = W) := fun x W hW => by
    obtain ⟨a, n, c, rfl, -, -, h⟩ := G2.out
    subst hW
    exact has_any _ _ x _ h
  clear hb hrd hop hus HJ H1 H2 G1 G2 e2
  go_wp2_with fail
  go_loopw [29, 13] (fun iv cv wr => ∃ k t : Nat, iv = .int .i64 (k : Int) ∧ cv = .int .i64 (t : Int) ∧ k ≤ n ∧ t ≤ k ∧ Hid (t = both (L.take k) xs ys) ∧ wr = w1) (fun iv _ _ => n - (intOf iv).toNat)
  case atStart => exact ⟨0, 0, rfl, rfl, Nat.zero_le _, Nat.le_refl _, rfl, rfl⟩
  case round =>
    obtain ⟨k, t, rfl, rfl, hk, ht, HT, hw⟩ := hrel
    by_cases hkn : k < n
    · have hknI : (k : Int) < (n : Int) := by omega
      obtain ⟨b, off, rfl, hb, hc⟩ := HO.out k hkn
      have c0 : wr.cell? ⟨b, off + k, none⟩ = some (.int .u64 (U (L.getD k 0#64))) := by rw [hw, ← us_get]; exact hc k hkn
      have HS := Lib.hid (both_step L xs ys k (by rw [HN.out]; exact hkn))
      have K1 := HC1.out (U (L.getD k 0#64)) wr hw
      have K2 := HC2.out (U (L.getD k 0#64)) wr hw
      have d1 : decide (U (L.getD k 0#64) ∈ us xs) = decide (L.getD k 0#64 ∈ xs) := decide_eq_decide.2 (us_mem _ _)
      have d2 : decide (U (L.getD k 0#64) ∈ us ys) = decide (L.getD k 0#64 ∈ ys) := decide_eq_decide.2 (us_mem _ _)
      rw [d1] at K1
      rw [d2] at K2
      clear hc d1 d2
      have wt : IntKind.i64.wrap ((t : Int) + 1) = (t : Int) + 1 := wr64 (by omega)
      have HW := Lib.hid hw
      clear hw
      generalize L.getD k 0#64 = z at *
      generalize U z = u at *
      generalize decide (z ∈ xs) = p1 at *
      generalize decide (z ∈ ys) = p2 at *
      have K1 := Lib.hid K1
      have K2 := Lib.hid K2
      cases p1 with
      | true =>
        cases p2 with
        | true =>
          have HS2 : Hid (t + 1 = both (L.take (k + 1)) xs ys) := by show _ = _; rw [HS.out, ← HT.out]; rfl
          go_wp2_with fail
          refine K1.out.mono ?_
          rintro e w2 ⟨rfl, rfl⟩
          go_wp2_with fail
          refine K2.out.mono ?_
          rintro e w2 ⟨rfl, rfl⟩
          go_wp2_with fail
          go_roundw
          case rel => exact ⟨k + 1, t + 1, by go_num, by go_num, by omega, by omega, HS2.out, HW.out⟩
          case measure => simp [intOf]; omega
        | false =>
          have HS2 : Hid (t = both (L.take (k + 1)) xs ys) := by show _ = _; rw [HS.out, ← HT.out]; rfl
          go_wp2_with fail
          refine K1.out.mono ?_
          rintro e w2 ⟨rfl, rfl⟩
          go_wp2_with fail
          refine K2.out.mono ?_
          rintro e w2 ⟨rfl, rfl⟩
          go_wp2_with fail
          go_roundw
          case rel => exact ⟨k + 1, t, by go_num, rfl, by omega, by omega, HS2.out, HW.out⟩
          case measure => simp [intOf]; omega
      | false =>
        have HS2 : Hid (t = both (L.take (k + 1)) xs ys) := by show _ = _; rw [HS.out, ← HT.out]; rfl
        go_wp2_with fail
        refine K1.out.mono ?_
        rintro e w2 ⟨rfl, rfl⟩
        go_wp2_with fail
        go_roundw
        case rel => exact ⟨k + 1, t, by go_num, rfl, by omega, by omega, HS2.out, HW.out⟩
        case measure => simp [intOf]; omega
    · have hknI : ¬ (k : Int) < (n : Int) := by omega
      have HT2 : Hid (t = both L xs ys) := by
        have := HT.out
        rwa [List.take_of_length_le (by rw [HN.out]; omega)] at this
      go_wp2_with fail
      go_ret3
      refine ⟨?_, HB.out⟩
      rw [HT2.out]; rfl
end Go.Proofs.Yticodfdonpookaa.Su
