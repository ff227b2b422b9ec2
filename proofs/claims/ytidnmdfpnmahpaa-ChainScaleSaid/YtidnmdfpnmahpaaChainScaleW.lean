/- The walk of ChainScale. No condition. -/
import Derived.Test.YtidnmdfpnmahpaaAl
import Derived.Test.YtidnmdfpnmahpaaScaleL
import Derived.Test.YtidnmdfpnmahpaaCloneM
import Derived.Test.YtidnmdfpnmahpaaClone
import Derived.Test.YtidnmdfpnmahpaaEqual
import Derived.Test.YtidnmdfpnmahpaaMatIn
set_option linter.unusedSimpArgs false
set_option linter.unusedVariables false
namespace Go.Proofs.Ytidnmdfpnmahpaa.chainScale
open Go.RowKit Go.Proofs.Ytidnmdfpnmahpaa
theorem drewN_below (w : World) (q : Nat) : Below w.heap.size w (w.drewN q) := (Below.refl _ _).drewN q
def rc (M : List (List Int)) (n : Nat) : Nat := if wholeF (posM M) n = true then 0 else 3
def rl (M : List (List Int)) (n : Nat) : List Int := if wholeF (posM M) n = true then castN (restN M n) else []
theorem rc_two (M : List (List Int)) (n : Nat) : rc M n = 0 ∨ rc M n = 3 := by unfold rc; split <;> simp
theorem rest_all (a : Option Addr) (n c : Nat) (M : List (List Int)) (w : World) (h : RdM w (.slice a n c) M) (hg : Good n M) :
    Calls Try.prog 9 #[.slice a n c] w fun e w' => Below w.heap.size w w' ∧ ∃ v, e = .returned (.tuple #[v, .int .i64 (rc M n : Nat)]) ∧ Rd w' v (rl M n) := by
  unfold rc rl
  cases hw : wholeF (posM M) n with
  | true =>
    refine (rest_run a n c M w h hg hw).mono ?_
    rintro e w' ⟨h1, g, cap, rfl, h2⟩
    exact ⟨h1, _, rfl, by simpa using h2⟩
  | false =>
    refine (rest_none a n c M w h hg hw).mono ?_
    rintro e w' ⟨rfl, h1⟩
    exact ⟨h1, _, rfl, by simpa using Rd.nil w'⟩
/-- The row, its first j taken so many times. -/
def mulT (r : List Int) (c : Int) (j : Nat) : List Int := (r.take j).map (· * c) ++ r.drop j
theorem mulT_get (r : List Int) (c : Int) (j : Nat) (h : j < r.length) : (mulT r c j).getD j 0 = r.getD j 0 := by
  unfold mulT
  rw [List.getD_eq_getElem?_getD, List.getElem?_append_right (by rw [List.length_map, List.length_take]; omega), List.length_map, List.length_take, show j - min j r.length = 0 by omega, List.getElem?_drop, List.getD_eq_getElem?_getD]
  rfl
theorem mulT_set (r : List Int) (c : Int) (i : Nat) (h : i < r.length) : (mulT r c i).set i (r.getD i 0 * c) = mulT r c (i + 1) := by
  unfold mulT
  have hl : ((r.take i).map (· * c)).length = i := by rw [List.length_map, List.length_take]; omega
  have e1 : r.drop i = r[i] :: r.drop (i + 1) := List.drop_eq_getElem_cons h
  have e2 : r.take (i + 1) = r.take i ++ [r[i]] := by rw [List.take_add_one, List.getElem?_eq_getElem h]; rfl
  have e3 : r.getD i 0 = r[i] := by rw [List.getD_eq_getElem?_getD, List.getElem?_eq_getElem h]; rfl
  rw [List.set_append_right _ _ (by omega), hl, Nat.sub_self, e1, e2, e3, List.map_append, List.append_assoc]
  rfl
theorem mulT_zero (r : List Int) (c : Int) : mulT r c 0 = r := by simp [mulT]
theorem mulT_all (r : List Int) (c : Int) (n : Nat) (h : r.length = n) : mulT r c n = r.map (· * c) := by
  unfold mulT; rw [List.take_of_length_le (by omega), List.drop_of_length_le (by omega), List.append_nil]
set_option maxHeartbeats 1000000 in
set_option maxRecDepth 20000 in
theorem run (a : Option Addr) (n c0 k c : Nat) (M : List (List Int)) (w : World) (h : RdM w (.slice a n c0) M) (hg : Good n M) (hk : k < n) (hc1 : 1 ≤ c) (hc9 : c ≤ 9) :
    Calls Try.prog 6 #[.slice a n c0, .int .i64 k, .int .i64 c] w fun e w' => e = .returned (.bool true) ∧ Below w.heap.size w w' := by
  obtain ⟨hl, hlc, hcm⟩ := h.lenEq
  have h1n := hg.2.1
  have h5n := hg.2.2.1
  have HM := Lib.hid h
  have hkI : (k : Int) < (n : Int) := by omega
  have hwz : wrongN M = 0 := (wrong_good M).2 (by rw [hl]; exact hg)
  have HWR : Hid (∀ X, Below w.heap.size w X → Calls Try.prog 12 #[.slice a n c0] X fun e w' => e = .returned (.int .i64 0) ∧ X = w') := fun X hX => (wrong_any a n c0 M X (h.below hX (Nat.le_refl _))).mono fun e w' ⟨h1, h2⟩ => ⟨by rw [h1, hwz]; rfl, h2⟩
  obtain ⟨b, off, U, rfl, hb, hU⟩ := h.at (by omega)
  have HU := Lib.hid hU
  have HUS : Hid (∀ i, i < n → (U i).oneCell' = true) := fun i hi => by
    obtain ⟨a', c', he, -⟩ := (hU i hi).2.slice
    rw [he]; rfl
  obtain ⟨a1, c1, hUk, -, -⟩ := (hU k hk).2.slice
  obtain ⟨hrn, hrx, -⟩ := hg.2.2.2 _ (getD_mem M k [] (by omega))
  rw [hrn] at hUk
  have HR : Hid (Rd w (.slice a1 n c1) (M.getD k [])) := by have := (hU k hk).2; rw [hUk] at this; exact this
  have HX : Hid (∀ j, j < n → 0 ≤ (M.getD k []).getD j 0 ∧ (M.getD k []).getD j 0 ≤ 9) := fun j hj => hrx _ (getD_mem _ j 0 (by omega))
  have HRE : Hid (∀ X, Below w.heap.size w X → Calls Try.prog 9 #[.slice (some ⟨b, off, none⟩) n c0] X fun e w' => Below X.heap.size X w' ∧ ∃ v, e = .returned (.tuple #[v, .int .i64 (rc M n : Nat)]) ∧ Rd w' v (rl M n)) := fun X hX => rest_all _ n c0 M X (h.below hX (Nat.le_refl _)) hg
  have HRM : Hid (∀ g cm X, RdM X (.slice (some ⟨g, 0, none⟩) n cm) (mulM M k (c : Int)) → Calls Try.prog 9 #[.slice (some ⟨g, 0, none⟩) n cm] X fun e w' => Below X.heap.size X w' ∧ ∃ v, ∃ (er : Nat) (l : List Int), e = .returned (.tuple #[v, .int .i64 er]) ∧ Rd w' v l ∧ (er = 2 ∨ (er = rc M n ∧ l = rl M n))) := fun g cm X hX => by
    rcases wrongN_mul hg k c hc1 hk with he | he
    · have hg' := (wrong_good (mulM M k (c : Int))).1 he
      rw [mulM_len, hl] at hg'
      refine (rest_all _ n cm _ X hX hg').mono ?_
      rintro e w' ⟨h1, v, rfl, h2⟩
      refine ⟨h1, v, _, _, rfl, h2, .inr ⟨?_, ?_⟩⟩
      · unfold rc; rw [posM_mul M k c hc1]
      · unfold rl; rw [posM_mul M k c hc1, restN_mul M k c n hc1 hk]
    · refine (rest_err _ n cm _ X hX (by omega)).mono ?_
      rintro e w' ⟨rfl, rfl⟩
      rw [he]
      exact ⟨Below.refl _ _, _, 2, [], rfl, Rd.nil _, .inl rfl⟩
  have HRC := Lib.hid (rc_two M n)
  have HLM : Hid (M.length = n) := hl
  have HRN : Hid ((M.getD k []).length = n) := hrn
  have HUK := Lib.hid hUk
  have HCLM : Hid (∀ X, Below w.heap.size w X → Calls Try.prog 15 #[.slice (some ⟨b, off, none⟩) n c0] X fun e w' =>
    ∃ g c, e = .returned (.slice (some ⟨g, 0, none⟩) n c) ∧ w'.ownsRow X.heap.size 24 1 (.slice (some ⟨g, 0, none⟩) n c) n ((List.range n).map U) ∧ Below X.heap.size X w' ∧ n ≤ c ∧ c ≤ 9223372036854775807) := fun X hX => cloneM_any b off n c0 U X (by omega) (by omega) (Nat.lt_of_lt_of_le hb hX.size) (fun i hi => (World.cell?_of_block (hX.block b hb)).trans (hU i hi).1) HUS.out hlc hcm
  have HCK : Hid (w.cell? ⟨b, off + k, none⟩ = some (.slice a1 n c1)) := by have := (hU k hk).1; rw [hUk] at this; exact this
  have hbI : Hid (b < w.heap.size) := hb
  clear h hg hl hU hrx hwz hrn hUk hb
  obtain ⟨R, hR⟩ : ∃ R, M.getD k [] = R := ⟨_, rfl⟩
  have HRE0 : Hid (M.getD k [] = R) := hR
  rw [hR] at HR HX HRN
  clear hR
  have d1 : decide ((k : Int) < 0) = false := decide_eq_false (by omega)
  have d2 : decide ((c : Int) < 1) = false := decide_eq_false (by omega)
  have d3 : decide ((9 : Int) < (c : Int)) = false := decide_eq_false (by omega)
  go_enter Try.func6, Try.ntmps6
  go_wp2_with fail
  refine (alive_any w).mono ?_
  rintro e w1 ⟨rfl, hb1⟩
  have HB1 := Lib.hid hb1
  clear hb1
  go_wp2_with fail
  refine (HWR.out w1 HB1.out).mono ?_
  rintro e w2 ⟨rfl, rfl⟩
  go_wp2_with fail
  refine (HCLM.out w1 HB1.out).mono ?_
  rintro e w3 ⟨g, cm, rfl, ho, hb3, hcm1, hcm2⟩
  have HB3 := Lib.hid (HB1.out.trans (hb3.mono HB1.out.size))
  have HO := Lib.hid (own_base ho HB1.out.size)
  have ck : w3.cell? ⟨b, off + k, none⟩ = some (.slice a1 n c1) := (World.cell?_of_block (HB3.out.block b hbI.out)).trans HCK.out
  clear ho hb3
  go_wp2_with fail
  refine (clone_any (.slice a1 n c1) R w3 (HR.out.below HB3.out (Nat.le_refl _)) (by rw [HRN.out]; omega)).mono ?_
  rintro e w4 ⟨v', rfl, ho4, hb4⟩
  have HB4 := Lib.hid (HB3.out.trans (hb4.mono HB3.out.size))
  have HO4 := Lib.hid (own_below HO.out hb4 (Nat.le_refl _))
  have HLT := Lib.hid (own_lt HO.out)
  rw [HRN.out] at ho4
  obtain ⟨g4, c4, rfl, hc41, hc42', hg4, -, -⟩ := own_open ho4 (by omega)
  have hc42 : c4 ≤ 9223372036854775807 := hc42'
  have HV := Lib.hid ho4
  have HG4 : Hid (g < g4) := Nat.lt_of_lt_of_le HLT.out.2 hg4
  have HNE : Hid (g ≠ g4) := by have := HG4.out; show g ≠ g4; omega
  have fr : w4.frozen? ⟨g, k, none⟩ = false := HO4.out.frozenAt k
  have cg : w4.cell? ⟨g, k, none⟩ = some (U k) := by
    have := HO4.out.cellAt k (by simpa using hk)
    rw [this, List.getElem?_map, List.getElem?_range hk]; rfl
  have cg2 : (w4.setCell ⟨g, k, none⟩ (.slice (some ⟨g4, 0, none⟩) n c4)).cell? ⟨g, k, none⟩ = some (.slice (some ⟨g4, 0, none⟩) n c4) := World.cell?_setCell_same _ _ _ cg
  have HOn : Hid ((w4.setCell ⟨g, k, none⟩ (.slice (some ⟨g4, 0, none⟩) n c4)).ownsRow w.heap.size 24 1 (.slice (some ⟨g, 0, none⟩) n cm) n (((List.range n).map U).set k (.slice (some ⟨g4, 0, none⟩) n c4))) := (HO4.out.stored k (.slice (some ⟨g4, 0, none⟩) n c4)).1
  have HVn : Hid ((w4.setCell ⟨g, k, none⟩ (.slice (some ⟨g4, 0, none⟩) n c4)).ownsRow w3.heap.size 3 1 (.slice (some ⟨g4, 0, none⟩) n c4) n (R.map (Value.int .i64))) := own_store HV.out HLT.out.2 _
  have HBn : Hid (Below w.heap.size w (w4.setCell ⟨g, k, none⟩ (.slice (some ⟨g4, 0, none⟩) n c4))) := HB4.out.setCell HLT.out.1 _
  clear ho4 hb4 hc42' hg4 ck HCK
  go_wp2_with fail
  generalize w4.setCell ⟨g, k, none⟩ (.slice (some ⟨g4, 0, none⟩) n c4) = w5 at *
  have HV0 : Hid (w5.ownsRow w3.heap.size 3 1 (.slice (some ⟨g4, 0, none⟩) n c4) n ((mulT R c 0).map (Value.int .i64))) := by show World.ownsRow _ _ _ _ _ _ _; rw [mulT_zero]; exact HVn.out
  go_loopw [51] (fun jv wr => ∃ j : Nat, j ≤ n ∧ jv = .int .i64 j ∧ Hid (Below w.heap.size w wr ∧ wr.ownsRow w.heap.size 24 1 (.slice (some ⟨g, 0, none⟩) n cm) n (((List.range n).map U).set k (.slice (some ⟨g4, 0, none⟩) n c4)) ∧ wr.ownsRow w3.heap.size 3 1 (.slice (some ⟨g4, 0, none⟩) n c4) n ((mulT R c j).map (Value.int .i64)))) (fun jv _ => n - (intOf jv).toNat)
  case atStart => exact ⟨0, Nat.zero_le _, rfl, HBn.out, HOn.out, HV0.out⟩
  case round =>
    obtain ⟨j, hj, rfl, HW⟩ := hrel
    by_cases hjl : j < n
    · have hjI : (j : Int) < (n : Int) := by omega
      have cj := own_get HW.out.2.2 j hjl
      rw [mulT_get _ _ _ (by rw [HRN.out]; exact hjl)] at cj
      have ck : wr.cell? ⟨g, k, none⟩ = some (.slice (some ⟨g4, 0, none⟩) n c4) := by
        rw [HW.out.2.1.cellAt k (by simpa using hk), List.getElem?_set_self (by simpa using hk)]
      have fj : wr.frozen? ⟨g4, j, none⟩ = false := HW.out.2.2.frozenAt j
      have hx := HX.out j hjl
      have HST : Hid ((mulT R c j).set j (R.getD j 0 * c) = mulT R c (j + 1)) := mulT_set R c j (by rw [HRN.out]; exact hjl)
      generalize R.getD j 0 = x at *
      have hxc : 0 ≤ x * (c : Int) ∧ x * (c : Int) ≤ 81 := ⟨Int.mul_nonneg hx.1 (by omega), by
        have : x * (c : Int) ≤ 9 * 9 := Int.mul_le_mul hx.2 (by omega) (by omega) (by decide)
        omega⟩
      obtain ⟨p, hp⟩ : ∃ p, x * (c : Int) = p := ⟨_, rfl⟩
      rw [hp] at hxc HST
      have hpw : IntKind.i64.wrap p = p := by rw [IntKind.wrap_i64]; omega
      have HWn : Hid (Below w.heap.size w (wr.setCell ⟨g4, j, none⟩ (.int .i64 p)) ∧ (wr.setCell ⟨g4, j, none⟩ (.int .i64 p)).ownsRow w.heap.size 24 1 (.slice (some ⟨g, 0, none⟩) n cm) n (((List.range n).map U).set k (.slice (some ⟨g4, 0, none⟩) n c4)) ∧ (wr.setCell ⟨g4, j, none⟩ (.int .i64 p)).ownsRow w3.heap.size 3 1 (.slice (some ⟨g4, 0, none⟩) n c4) n ((mulT R c (j + 1)).map (Value.int .i64))) := by
        refine ⟨HW.out.1.setCell (by have := HG4.out; have := HLT.out.1; show w.heap.size ≤ g4; omega) _, own_same HW.out.2.1 (fun g' h' => ?_), ?_⟩
        · cases h'
          exact Below.heap_setCell _ _ _ _ HNE.out
        · rw [← HST.out]; exact own_set HW.out.2.2 j p
      clear HW
      go_wp2_with fail
      go_roundw
      case rel => exact ⟨j + 1, by omega, by go_num, HWn.out⟩
      case measure => simp [intOf]; omega
    · obtain rfl : j = n := by omega
      have HRD : Hid (RdM wr (.slice (some ⟨g, 0, none⟩) j cm) (mulM M k (c : Int))) := by
        refine RdM.mk (by rw [mulM_len, HLM.out]) hcm1 hcm2 fun _ => ⟨g, 0, fun i => if i = k then .slice (some ⟨g4, 0, none⟩) j c4 else U i, rfl, (own_lt HW.out.2.1).2, fun i hi => ?_⟩
        rw [Nat.zero_add, HW.out.2.1.cellAt i (by simpa using hi)]
        by_cases e : i = k
        · subst e
          rw [List.getElem?_set_self (by simpa using hi)]
          refine ⟨by simp, ?_⟩
          show Rd wr (if i = i then _ else _) _
          rw [if_pos rfl]
          have h1 := Rd.own HW.out.2.2
          rw [mulT_all _ _ _ HRN.out] at h1
          rw [mulM_get]
          unfold scK
          rw [if_pos rfl, HRE0.out]
          exact h1
        · rw [List.getElem?_set_ne (fun h => e h.symm), List.getElem?_map, List.getElem?_range hi]
          refine ⟨by simp [e], ?_⟩
          show Rd wr (if i = k then _ else _) _
          rw [if_neg e]
          rw [mulM_get]
          unfold scK
          rw [if_neg e]
          simp only [Int.mul_one, List.map_id']
          exact (HU.out i hi).2.below HW.out.1 (Nat.le_refl _)
      have HBW : Hid (Below w.heap.size w wr) := HW.out.1
      clear HW HV0 HVn HOn HBn cg2
      go_wp2_with fail
      refine (HRE.out wr HBW.out).mono ?_
      rintro e w6 ⟨hb6, v1, rfl, hr1⟩
      have HB6 := Lib.hid (HBW.out.trans (hb6.mono HBW.out.size))
      have HRD6 := Lib.hid (HRD.out.below hb6 (Nat.le_refl _))
      have HR1 := Lib.hid hr1
      clear hb6 hr1
      go_wp2_with fail
      refine (HRM.out g cm w6 HRD6.out).mono ?_
      rintro e w7 ⟨hb7, v2, er, l2, rfl, hr2, hcase⟩
      have HB7 := Lib.hid (HB6.out.trans (hb7.mono HB6.out.size))
      have HR17 := Lib.hid (HR1.out.below hb7 (Nat.le_refl _))
      have HR2 := Lib.hid hr2
      clear hb7 hr2
      rcases hcase with rfl | ⟨rfl, rfl⟩
      · go_wp2_with fail
        go_ret
        exact ⟨rfl, HB7.out⟩
      · have HEQ : Hid (Calls Try.prog 14 #[v1, v2] w7 fun e w' => e = .returned (.bool true) ∧ Below w7.heap.size w7 w') := (equal_any v1 v2 _ _ w7 HR17.out HR2.out).mono fun e w' ⟨h1, h2⟩ => ⟨by rw [h1]; simp, h2⟩
        rcases HRC.out with h0 | h0
        · rw [h0]
          go_wp2_with fail
          refine (HEQ.out).mono ?_
          rintro e w8 ⟨rfl, hb8⟩
          have HB8 := Lib.hid (HB7.out.trans (hb8.mono HB7.out.size))
          clear hb8
          go_wp2_with fail
          go_ret
          exact ⟨rfl, HB8.out⟩
        · rw [h0]
          go_wp2_with fail
          refine (HEQ.out).mono ?_
          rintro e w8 ⟨rfl, hb8⟩
          have HB8 := Lib.hid (HB7.out.trans (hb8.mono HB7.out.size))
          clear hb8
          go_wp2_with fail
          go_ret
          exact ⟨rfl, HB8.out⟩
theorem walk (x0 : Option Addr × Nat × Nat × List (List Int)) (x1 x2 : Int) (w : World) (h : RdM w (.slice x0.1 x0.2.1 x0.2.2.1) x0.2.2.2) (g1 : (Lit.int .i64 x1).wf = true) (g2 : (Lit.int .i64 x2).wf = true) :
    Calls Try.prog 6 #[.slice x0.1 x0.2.1 x0.2.2.1, .int .i64 x1, .int .i64 x2] w fun e w' => e = .returned (.bool true) ∧ Below w.heap.size w w' := by
  obtain ⟨a, n, c, M⟩ := x0
  simp only at h ⊢
  obtain ⟨hl, hc1, hc2⟩ := h.lenEq
  by_cases hok : wrongN M = 0 ∧ 0 ≤ x1 ∧ x1 < (n : Int) ∧ 1 ≤ x2 ∧ x2 ≤ 9
  · obtain ⟨hw, h1, h2, h3, h4⟩ := hok
    have hg := (wrong_good M).1 hw
    rw [hl] at hg
    obtain ⟨k, rfl⟩ := Int.eq_ofNat_of_zero_le h1
    obtain ⟨b, rfl⟩ := Int.eq_ofNat_of_zero_le (show 0 ≤ x2 by omega)
    exact run a n c k b M w h hg (by omega) (by omega) (by omega)
  · have HWR : Hid (∀ X, Below w.heap.size w X → Calls Try.prog 12 #[.slice a n c] X fun e w' => e = .returned (.int .i64 (wrongN M : Nat)) ∧ X = w') := fun X hX => wrong_any a n c M X (h.below hX (Nat.le_refl _))
    clear h hl
    generalize wrongN M = er at *
    have HOK := Lib.hid hok
    clear hok
    go_enter Try.func6, Try.ntmps6
    go_wp2_with fail
    refine (alive_any w).mono ?_
    rintro e w1 ⟨rfl, hb1⟩
    have HB1 := Lib.hid hb1
    clear hb1
    go_wp2_with fail
    refine (HWR.out w1 HB1.out).mono ?_
    rintro e w2 ⟨rfl, rfl⟩
    go_wp2_with fail
    all_goals first
      | (exfalso; have := HOK.out; omega)
      | (go_ret; exact ⟨rfl, HB1.out⟩)
end Go.Proofs.Ytidnmdfpnmahpaa.chainScale
