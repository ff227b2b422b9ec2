/- slices.Concat of however many slices of ints: a row of one's own. Condition: few in all. -/
import Derived.Test.YthnalgkojoeniaaConcI
import Derived.Test.YthnalgkojoeniaaOf
set_option linter.unusedSimpArgs false
set_option linter.unusedVariables false
namespace Go.Proofs.Ythnalgkojoeniaa
open Go.RowKit
theorem flat_take (zss : List (List Int)) (i : Nat) (h : i < zss.length) : (zss.take (i + 1)).flatten = (zss.take i).flatten ++ zss.getD i [] := by
  have e : zss.take (i + 1) = zss.take i ++ [zss.getD i []] := by
    rw [List.take_add_one, List.getElem?_eq_getElem h, List.getD_eq_getElem?_getD, List.getElem?_eq_getElem h]; rfl
  rw [e, List.flatten_append, List.flatten_singleton]
theorem flat_take_le (zss : List (List Int)) (i : Nat) : (zss.take i).flatten.length ≤ zss.flatten.length := by
  conv => rhs; rw [← List.take_append_drop i zss, List.flatten_append, List.length_append]
  omega
/-- A value that is a slice of ints, and whose capacity is nothing where it is nil. -/
def RdC (w : World) (V : Value) (r : List Int) : Prop := ∃ a c, V = .slice a r.length c ∧ (a = none → r.length = 0 ∧ c = 0) ∧ Rd w V r
theorem RdC.below {w w' : World} {B : Nat} {v : Value} {zs : List Int} (h : RdC w v zs) (hb : Below B w w') (hB : w.heap.size ≤ B) : RdC w' v zs := by
  obtain ⟨a, c, h1, h2, h3⟩ := h
  exact ⟨a, c, h1, h2, h3.below hb hB⟩
theorem RowAt.rdc {w : World} {base : Nat} {V : Value} {r : List Int} (h : RowAt w base V r) : RdC w V r := by
  have hr := h.rd
  obtain ⟨a, c, rfl, h1, h2, hz, h3⟩ := h
  refine ⟨a, c, rfl, fun ha => ⟨?_, hz ha⟩, hr⟩
  have := hz ha; omega
set_option maxHeartbeats 3200000 in
theorem concatn_core (a0 : Option Addr) (k c T : Nat) (R F : Nat → List Int) (w : World) (hkc : k ≤ c) (hc : c ≤ 9223372036854775807) (hF0 : F 0 = []) (hFs : ∀ i, i < k → F (i + 1) = F i ++ R i) (hFT : (F k).length = T) (hFle : ∀ i, i ≤ k → (F i).length ≤ T)
    (ha : 0 < k → ∃ (b off : Nat) (U : Nat → Value), a0 = some ⟨b, off, none⟩ ∧ b < w.heap.size ∧ ∀ i, i < k → w.cell? ⟨b, off + i, none⟩ = some (U i) ∧ RdC w (U i) (R i))
    (hlen : T ≤ 100000) :
    Calls Try.prog 27 #[.slice a0 k c] w fun e w' => Below w.heap.size w w' ∧ ∃ v, e = .returned v ∧ w'.ownsRow w.heap.size 3 1 v T ((F k).map (Value.int .i64)) := by
  obtain ⟨i0, hinfo, hz0, hz1, hz2⟩ := info_parts Try.info3t
  have HA := Lib.hid ha
  have HZ := Lib.hid hF0
  have HST := Lib.hid hFs
  have HLE := Lib.hid hFle
  have HTT := Lib.hid hFT
  clear ha hF0 hFs hFT hFle
  go_enter Try.func27, Try.ntmps27
  go_wp2_with fail
  go_loopw [11, 3, 5] (fun iv sv _ wr => ∃ i s : Nat, i ≤ k ∧ iv = .int .i64 i ∧ sv = .int .i64 s ∧ w = wr ∧ Hid ((F i).length = s)) (fun iv _ _ _ => k - (intOf iv).toNat)
  case atStart => exact ⟨0, 0, Nat.zero_le _, rfl, rfl, rfl, by show _ = _; rw [HZ.out]; rfl⟩
  case round =>
    obtain ⟨i, s, hi, rfl, rfl, rfl, hs⟩ := hrel
    by_cases hlt : i < k
    · obtain ⟨b, off, U, rfl, hb, hcell⟩ := HA.out (by omega)
      obtain ⟨cx, ra, rc, hU, hnone, hrd⟩ := hcell i hlt
      rw [hU] at cx
      have hle := HLE.out (i + 1) (by omega)
      have HS2 := Lib.hid (HST.out i hlt)
      rw [HS2.out, List.length_append, hs.out] at hle
      obtain ⟨m, hm⟩ : ∃ m, (R i).length = m := ⟨_, rfl⟩
      rw [hm] at cx hle
      have HS3 : Hid ((F (i + 1)).length = s + m) := by show _ = _; rw [HS2.out, List.length_append, hs.out, hm]
      have hsm : (s : Int) + (m : Int) = ((s + m : Nat) : Int) := rfl
      generalize s + m = s' at *
      have f1 : decide ((s' : Int) < 0) = false := decide_eq_false (by omega)
      clear hcell hU hnone hrd hm hs
      go_wp2_with fail
      exact ⟨⟨i + 1, s', by omega, by go_num, rfl, by first | rfl | trivial, HS3⟩, by simp [intOf]; omega⟩
    · obtain rfl : i = k := by omega
      have e := hs.out
      rw [HTT.out] at e
      subst e
      clear hs
      go_wp2_with fail
      have hg := Lib.hid (fun w => growi_any T (by omega) w)
      refine (hg.out _).mono ?_
      rintro e w1 ⟨hb1, v, rfl, hown⟩
      have HB := Lib.hid hb1
      have HO := Lib.hid hown
      clear hb1 hown
      obtain ⟨wo, hwo⟩ : ∃ wo, wo = w1 := ⟨_, rfl⟩
      subst hwo
      go_wp2_with fail
      go_loopw [27, 6, 8] (fun iv v _ wr => ∃ j : Nat, j ≤ i ∧ iv = .int .i64 j ∧ Below w.heap.size w wr ∧ Room wr w.heap.size 3 v (F j).length ((F j).map (Value.int .i64)) T) (fun iv _ _ _ => i - (intOf iv).toNat)
      case atStart => exact ⟨0, Nat.zero_le _, rfl, HB.out, by rw [HZ.out]; exact HO.out⟩
      case round =>
        clear HB HO
        obtain ⟨j, hj, rfl, hbel, ho⟩ := hrel
        have HBE := Lib.hid hbel
        have HO := Lib.hid ho
        by_cases hlt : j < i
        · obtain ⟨b, off, U, rfl, hb, hcell⟩ := HA.out (by omega)
          obtain ⟨cx0, hrc⟩ := hcell j hlt
          have cx := (World.cell?_of_block (hbel.block b hb)).trans cx0
          obtain ⟨ra, rc, hU, hnone, hrd⟩ := hrc.below hbel (Nat.le_refl _)
          have hle := HLE.out (j + 1) (by omega)
          have HS2 := Lib.hid (HST.out j hlt)
          rw [HS2.out, List.length_append] at hle
          rw [hU] at cx hrd
          obtain ⟨l1, l2, l3, l4⟩ := hrd.app
          obtain ⟨m, hm⟩ : ∃ m, (R j).length = m := ⟨_, rfl⟩
          rw [hm] at cx hle hnone l2
          have HN := Lib.hid hnone
          have HC := Lib.hid l4
          have HM := Lib.hid hm
          have HSZ := Lib.hid hbel.size
          clear hcell cx0 hrc hU hnone hrd l1 l4 hm hbel ho
          go_wp2_with (at_builtin; go_must (refine push_room rfl _ _ 22 rfl w.heap.size 3 i0 (Value.int .i64 0) 8 Try.underlying22 hinfo hz0 hz1 hz2 (by decide) rfl _ _ T _ rfl HO.out ra m rc ((R j).map (Value.int .i64)) rfl (by simp; exact HM.out) HN.out HC.out (fun u hu => by obtain ⟨x, _, rfl⟩ := List.mem_map.1 hu; rfl) hle HSZ.out ?_))
          intro v' w2 hown hgr
          have HO2 : Hid (Room w2 w.heap.size 3 v' (F (j + 1)).length ((F (j + 1)).map (Value.int .i64)) T) := by
            show Room _ _ _ _ _ _ _
            rw [HS2.out, List.map_append, List.length_append, HM.out]
            exact hown
          have HB2 := Lib.hid (HBE.out.grown hgr HSZ.out (fun k hk => (HO.out.1.lt k hk).1))
          clear hown hgr
          go_wp2_with fail
          exact ⟨⟨j + 1, by omega, by go_num, HB2.out, HO2.out⟩, by simp [intOf]; omega⟩
        · obtain rfl : j = i := by omega
          have h9 := HO.out.1
          rw [HTT.out] at h9
          have HR := Lib.hid h9
          clear hbel ho h9
          go_wp2_with fail
          go_ret
          exact ⟨HBE.out, _, rfl, HR.out⟩
theorem concatn_any (a0 : Option Addr) (k c : Nat) (zss : List (List Int)) (w : World) (hk : zss.length = k) (hkc : k ≤ c) (hc : c ≤ 9223372036854775807)
    (ha : 0 < k → ∃ (b off : Nat) (U : Nat → Value), a0 = some ⟨b, off, none⟩ ∧ b < w.heap.size ∧ ∀ i, i < k → w.cell? ⟨b, off + i, none⟩ = some (U i) ∧ RdC w (U i) (zss.getD i []))
    (hlen : zss.flatten.length ≤ 100000) :
    Calls Try.prog 27 #[.slice a0 k c] w fun e w' => Below w.heap.size w w' ∧ ∃ v, e = .returned v ∧ w'.ownsRow w.heap.size 3 1 v zss.flatten.length (zss.flatten.map (Value.int .i64)) := by
  have e : (zss.take k).flatten = zss.flatten := by rw [← hk, List.take_length]
  have := concatn_core a0 k c zss.flatten.length (fun i => zss.getD i []) (fun i => (zss.take i).flatten) w hkc hc (by simp) (fun i hi => flat_take zss i (by omega)) (by rw [e]) (fun i _ => flat_take_le zss i) ha hlen
  simp only [e] at this
  exact this
end Go.Proofs.Ythnalgkojoeniaa
