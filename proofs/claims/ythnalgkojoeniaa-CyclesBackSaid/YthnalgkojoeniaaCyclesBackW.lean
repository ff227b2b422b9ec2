/- The walk of CyclesBack. No condition. -/
import Derived.Test.YthnalgkojoeniaaRoundC
set_option linter.unusedSimpArgs false
set_option linter.unusedVariables false
namespace Go.Proofs.Ythnalgkojoeniaa.cyclesBack
open Go.RowKit Go.Proofs.Ythnalgkojoeniaa
theorem nats_ints {zs : List Int} (h : OkP zs) : ints (nats zs) = zs := by
  conv => rhs; rw [h.tab]
  unfold ints nats tabI
  rw [List.map_map]; rfl
theorem ints_nats (r : List Nat) : nats (ints r) = r := by
  unfold nats
  apply List.ext_getElem (by simp [ints])
  intro i a b
  simp only [List.getElem_map, List.getElem_range, nd]
  rw [ints_get r i b, List.getD_eq_getElem?_getD, List.getElem?_eq_getElem b]; simp
theorem okp_perm {r : List Nat} {n : Nat} (h : r.Perm (List.range n)) (hn : n ≤ 20) : OkP (ints r) ∧ (ints r).length = n := by
  have hnd : r.Nodup := h.symm.nodup List.nodup_range
  have hl : r.length = n := by rw [h.length_eq, List.length_range]
  have hil : (ints r).length = n := by simp [ints, hl]
  refine ⟨⟨by omega, fun i hi => ?_, fun i hi j hj e => ?_⟩, hil⟩
  · rw [ints_get r i (by omega), hil]
    have := List.mem_range.1 (h.mem_iff.1 (get_mem (r := r) (k := i) (by omega)))
    omega
  · rw [ints_get r i (by omega), ints_get r j (by omega)] at e
    have := get_inj hnd (j := i) (k := j) (by omega) (by omega) (by omega)
    omega
/-- What Flat writes of f, Round reads as f. -/
theorem round_flat {f : Nat → Nat} {n : Nat} (h : Pm f n) : recs (hrows f n).flatten = hrows f n ∧ ∀ x, x < n → nxt (hrows f n) x = f x := by
  have hp := h.hflat_perm
  have hnd : (hrows f n).flatten.Nodup := hp.symm.nodup List.nodup_range
  refine ⟨recs_flat hnd h.hrows_hr, fun x hx => ?_⟩
  obtain ⟨r, hr, k, hk, rfl⟩ := row_of hp hx
  obtain ⟨y, h1, h2, rfl⟩ := Pm.hrows_mem.1 hr
  rw [nxt_at hnd hr hk, h.orb_next h1 hk]
theorem walk_bad (v : Value) (zs : List Int) (w : World) (h : Rd w v zs) (hno : ¬ OkP zs) :
    Calls Try.prog 6 #[v] w fun e w' => e = .returned (.bool true) ∧ Below w.heap.size w w' := by
  have HR := Lib.hid h
  have HT := Lib.hid (fun w v (h : Rd w v zs) => of_bad v zs w h hno)
  clear h hno
  go_enter Try.func6, Try.ntmps6
  go_wp2_with fail
  refine (alive_any _).mono ?_
  rintro e w1 ⟨rfl, hb1⟩
  have HB1 := Lib.hid hb1
  have HA1 := Lib.hid (HR.out.below hb1 (Nat.le_refl _))
  clear hb1 HR
  go_wp2_with fail
  refine (HT.out _ _ HA1.out).mono ?_
  rintro e w2 ⟨hb2, rfl⟩
  have HB2 := Lib.hid (HB1.out.trans (hb2.mono HB1.out.size))
  clear hb2 HA1 HT
  go_wp2_with fail
  go_ret
  exact ⟨rfl, HB2.out⟩
set_option maxRecDepth 20000 in
set_option maxHeartbeats 3200000 in
theorem walk_ok (v : Value) (zs : List Int) (w : World) (h : Rd w v zs) (k1 : OkP zs) :
    Calls Try.prog 6 #[v] w fun e w' => e = .returned (.bool true) ∧ Below w.heap.size w w' := by
  have HR := Lib.hid h
  have hn := k1.1
  have HOF := Lib.hid (fun w v (h : Rd w v zs) => of_ok v zs w h k1)
  have hpm := k1.pm
  have HB : Hid (∀ w v, RdM w v (rows (cyc (nd zs) zs.length zs.length)) → Calls Try.prog 19 #[v] w fun e w' => Below w.heap.size w w' ∧ ∃ u, e = .returned (.tuple #[u, .int .i64 0]) ∧ Rd w' u zs) := fun w v h => by
    refine (back_rows v _ zs.length (nd zs) w h hpm.flat_perm hn hpm (fun i hi k hk => ?_) (by have := cyc_len_le (nd zs) zs.length zs.length; omega)).mono ?_
    · have hm : (cyc (nd zs) zs.length zs.length).getD i [] ∈ cyc (nd zs) zs.length zs.length := by
        rw [List.getD_eq_getElem?_getD, List.getElem?_eq_getElem hi]; exact List.getElem_mem hi
      obtain ⟨x, h1, h2, e⟩ := cyc_mem hm
      rw [e] at hk ⊢
      exact hpm.orb_next h1 hk
    · rintro e w' ⟨hb, u, rfl, hu⟩
      rw [← k1.tab] at hu
      exact ⟨hb, u, rfl, hu⟩
  have HF := Lib.hid (fun w v (h : Rd w v zs) => flat_ok v zs w h k1)
  obtain ⟨kf, kl⟩ := okp_perm hpm.hflat_perm hn
  have HRF : Hid (∀ w v, Rd w v (ints (hrows (nd zs) zs.length).flatten) → Calls Try.prog 21 #[v] w fun e w' => Below w.heap.size w w' ∧ ∃ u, e = .returned (.tuple #[u, .int .i64 0]) ∧ Rd w' u zs) := fun w v h => by
    refine (round_ok v _ w h kf).mono ?_
    rintro e w' ⟨hb, u, rfl, hu⟩
    rw [ints_nats, kl, (round_flat hpm).1, tabI_congr (round_flat hpm).2, ← k1.tab] at hu
    exact ⟨hb, u, rfl, hu⟩
  have HRD := Lib.hid (fun w v (h : Rd w v zs) => round_ok v zs w h k1)
  have HFD : Hid (∀ w v, Rd w v (tabI zs.length (nxt (recs (nats zs)))) → Calls Try.prog 20 #[v] w fun e w' => Below w.heap.size w w' ∧ ∃ u, e = .returned (.tuple #[u, .int .i64 0]) ∧ Rd w' u zs) := fun w v h => by
    obtain ⟨r1, r2⟩ := recs_ok (nats zs)
    have hp : (recs (nats zs)).flatten.Perm (List.range zs.length) := by rw [r2]; exact nats_perm k1
    have hpn := nxt_pm hp
    refine (flat_ok v _ w h (okp_of hn hpn)).mono ?_
    rintro e w' ⟨hb, u, rfl, hu⟩
    rw [tabI_len] at hu
    have e1 : hrows (nd (tabI zs.length (nxt (recs (nats zs))))) zs.length = hrows (nxt (recs (nats zs))) zs.length := by
      have hc := hpn.congr fun x hx => (nd_tab_lt (f := nxt (recs (nats zs))) x hx).symm
      unfold hrows highs
      have e2 : (List.range zs.length).filter (isH (nd (tabI zs.length (nxt (recs (nats zs))))) zs.length) = (List.range zs.length).filter (isH (nxt (recs (nats zs))) zs.length) := by
        refine List.filter_congr fun x hx => ?_
        unfold isH
        rw [orb_congr hc (fun x hx => nd_tab_lt x hx) (List.mem_range.1 hx)]
      rw [e2]
      refine List.map_congr_left fun x hx => ?_
      exact orb_congr hc (fun x hx => nd_tab_lt x hx) (List.mem_range.1 (List.mem_filter.1 hx).1)
    rw [e1, nxt_hrows hp r1, r2, nats_ints k1] at hu
    exact ⟨hb, u, rfl, hu⟩
  have HEQ : Hid (∀ w v v2, Rd w v zs → Rd w v2 zs → Calls Try.prog 18 #[v, v2] w fun e w' => e = .returned (.bool true) ∧ Below w.heap.size w w') := fun w v v2 h h2 => by
    have := equal_any v v2 zs zs w h h2
    rwa [decide_eq_true rfl] at this
  generalize tabI zs.length (nxt (recs (nats zs))) = ds at *
  generalize ints (hrows (nd zs) zs.length).flatten = fs at *
  generalize rows (cyc (nd zs) zs.length zs.length) = css at *
  clear h k1 hpm kf kl
  go_enter Try.func6, Try.ntmps6
  go_wp2_with fail
  refine (alive_any _).mono ?_
  rintro e w1 ⟨rfl, hb1⟩
  have HB1 := Lib.hid hb1
  have HA1 := Lib.hid (HR.out.below hb1 (Nat.le_refl _))
  clear hb1 HR
  go_wp2_with fail
  refine (HOF.out _ _ HA1.out).mono ?_
  rintro e w2 ⟨hb2, u, rfl, hom⟩
  have HB2 := Lib.hid (HB1.out.trans (hb2.mono HB1.out.size))
  have HA2 := Lib.hid (HA1.out.below hb2 (Nat.le_refl _))
  have HL2 := Lib.hid hom.rd
  clear hb2 HA1 HOF hom
  go_wp2_with fail
  refine (HB.out _ _ HL2.out).mono ?_
  rintro e w3 ⟨hb3, va, rfl, ha⟩
  have HB3 := Lib.hid (HB2.out.trans (hb3.mono HB2.out.size))
  have HA3 := Lib.hid (HA2.out.below hb3 (Nat.le_refl _))
  have HVA3 := Lib.hid ha
  clear hb3 HA2 HB ha HL2
  go_wp2_with fail
  refine (HF.out _ _ HA3.out).mono ?_
  rintro e w4 ⟨hb4, vb, rfl, hb⟩
  have HB4 := Lib.hid (HB3.out.trans (hb4.mono HB3.out.size))
  have HA4 := Lib.hid (HA3.out.below hb4 (Nat.le_refl _))
  have HVA4 := Lib.hid (HVA3.out.below hb4 (Nat.le_refl _))
  have HVB4 := Lib.hid hb
  clear hb4 HA3 HF hb HVA3
  go_wp2_with fail
  refine (HRF.out _ _ HVB4.out).mono ?_
  rintro e w5 ⟨hb5, vc, rfl, hc⟩
  have HB5 := Lib.hid (HB4.out.trans (hb5.mono HB4.out.size))
  have HA5 := Lib.hid (HA4.out.below hb5 (Nat.le_refl _))
  have HVA5 := Lib.hid (HVA4.out.below hb5 (Nat.le_refl _))
  have HVC5 := Lib.hid hc
  clear hb5 HA4 HRF hc HVA4 HVB4
  go_wp2_with fail
  refine (HRD.out _ _ HA5.out).mono ?_
  rintro e w6 ⟨hb6, vd, rfl, hd⟩
  have HB6 := Lib.hid (HB5.out.trans (hb6.mono HB5.out.size))
  have HA6 := Lib.hid (HA5.out.below hb6 (Nat.le_refl _))
  have HVA6 := Lib.hid (HVA5.out.below hb6 (Nat.le_refl _))
  have HVC6 := Lib.hid (HVC5.out.below hb6 (Nat.le_refl _))
  have HVD6 := Lib.hid hd
  clear hb6 HA5 HRD hd HVA5 HVC5
  go_wp2_with fail
  refine (HFD.out _ _ HVD6.out).mono ?_
  rintro e w7 ⟨hb7, vx, rfl, hx⟩
  have HB7 := Lib.hid (HB6.out.trans (hb7.mono HB6.out.size))
  have HA7 := Lib.hid (HA6.out.below hb7 (Nat.le_refl _))
  have HVA7 := Lib.hid (HVA6.out.below hb7 (Nat.le_refl _))
  have HVC7 := Lib.hid (HVC6.out.below hb7 (Nat.le_refl _))
  have HVX7 := Lib.hid hx
  clear hb7 HA6 HFD hx HVA6 HVC6 HVD6
  go_wp2_with fail
  refine (HEQ.out _ _ _ HVA7.out HA7.out).mono ?_
  rintro e w8 ⟨rfl, hb8⟩
  have HB8 := Lib.hid (HB7.out.trans (hb8.mono HB7.out.size))
  have HA8 := Lib.hid (HA7.out.below hb8 (Nat.le_refl _))
  have HVC8 := Lib.hid (HVC7.out.below hb8 (Nat.le_refl _))
  have HVX8 := Lib.hid (HVX7.out.below hb8 (Nat.le_refl _))
  clear hb8 HA7 HVA7 HVC7 HVX7
  go_wp2_with fail
  refine (HEQ.out _ _ _ HVC8.out HA8.out).mono ?_
  rintro e w9 ⟨rfl, hb9⟩
  have HB9 := Lib.hid (HB8.out.trans (hb9.mono HB8.out.size))
  have HA9 := Lib.hid (HA8.out.below hb9 (Nat.le_refl _))
  have HVX9 := Lib.hid (HVX8.out.below hb9 (Nat.le_refl _))
  clear hb9 HA8 HVC8 HVX8
  go_wp2_with fail
  refine (HEQ.out _ _ _ HVX9.out HA9.out).mono ?_
  rintro e w10 ⟨rfl, hb10⟩
  have HB10 := Lib.hid (HB9.out.trans (hb10.mono HB9.out.size))
  clear hb10 HA9 HVX9
  go_wp2_with fail
  go_ret
  exact ⟨rfl, HB10.out⟩
theorem walk (a : Option Addr) (len cap : Nat) (z : List Int) (w : World) (h : IsRow .i64 w a len cap z) :
    Calls Try.prog 6 #[.slice a len cap] w fun e w' => e = .returned (.bool true) ∧ Below w.heap.size w w' := by
  by_cases k1 : OkP (z.take len)
  · exact walk_ok _ _ w h.rd.1 k1
  · exact walk_bad _ _ w h.rd.1 k1
end Go.Proofs.Ythnalgkojoeniaa.cyclesBack
