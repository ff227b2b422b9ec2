/- cycles.Flat: rounds, each from its greatest one on, these rising. No condition. -/
import Derived.Test.YthnalgkojoeniaaSrt
import Derived.Test.YthnalgkojoeniaaSmall
import Derived.Test.YthnalgkojoeniaaOdd
import Derived.Test.YthnalgkojoeniaaFlatL
import Derived.Test.YthnalgkojoeniaaSort0
import Derived.RegionTactic
import Derived.BigRegion
import Derived.Deep.RegionWith
set_option linter.unusedSimpArgs false
set_option linter.unusedVariables false
namespace Go.Proofs.Ythnalgkojoeniaa
open Go.RowKit
theorem flat_bad (v : Value) (zs : List Int) (w : World) (h : Rd w v zs) (hno : ¬ OkP zs) :
    Calls Try.prog 20 #[v] w fun e w' => Below w.heap.size w w' ∧ e = .returned (.tuple #[.slice none 0 0, .int .i64 1]) := by
  have HR := Lib.hid (of_bad v zs w h hno)
  obtain ⟨a, cap, rfl, hlc, hcm, -⟩ := h.open
  generalize zs.length = n at *
  clear h hno
  go_enter Try.func20, Try.ntmps20
  go_wp2_with fail
  refine HR.out.mono ?_
  rintro e w1 ⟨hb1, rfl⟩
  have HB1 := Lib.hid hb1
  clear hb1
  go_wp2_with fail
  go_ret2
  exact ⟨HB1.out, rfl⟩
/-- A row of rows, one of them turned to another. -/
theorem OM.put {w : World} {base g n cap k : Nat} {zss : List (List Int)} {V : Value} {r : List Int} (h : OM w base (.slice (some ⟨g, 0, none⟩) n cap) zss) (hk : k < zss.length) (hV : RowAt w base V r) :
    OM (w.setCell ⟨g, k, none⟩ V) base (.slice (some ⟨g, 0, none⟩) n cap) (zss.set k r) := by
  obtain ⟨U, h1, h2, h3⟩ := h
  have h1' := h1
  rcases h1'.2 with ⟨he, _⟩ | ⟨g', cap', cur, he, hbg, hgg, _⟩
  · cases he
  · injection he with e1 e2 e3
    injection e1 with e1
    injection e1 with e1 _ _
    subst e1 e2
    have keep : ∀ {W : Value} {q : List Int}, RowAt w base W q → RowAt (w.setCell ⟨g, k, none⟩ V) base W q := fun hq =>
      hq.kept (by simp [World.setCell]) fun b hb _ ⟨cs, fr, hcs⟩ => Below.heap_setCell _ _ _ _ (fun e => by
        simp only at e
        subst e
        rw [hgg] at hcs
        cases hcs)
    refine ⟨fun j => if j = k then V else U j, ?_, fun h => absurd h (by simp; intro e; subst e; simp at hk), fun j hj => ?_⟩
    · have e : ((List.range zss.length).map U).set k V = (List.range (zss.set k r).length).map (fun j => if j = k then V else U j) := by
        apply List.ext_getElem (by simp)
        intro i a b
        simp only [List.getElem_set, List.getElem_map, List.getElem_range]
        by_cases e : k = i
        · subst e; simp
        · rw [if_neg e, if_neg (fun h => e h.symm)]
      have := (h1.stored k V).1
      rw [e] at this
      simpa using this
    · show RowAt _ _ (if j = k then V else U j) _
      have hj' : j < zss.length := by simpa using hj
      by_cases e : j = k
      · subst e
        rw [if_pos rfl, List.getD_eq_getElem?_getD, List.getElem?_set_self hj']
        exact keep hV
      · rw [if_neg e, List.getD_eq_getElem?_getD, List.getElem?_set_ne (fun h => e h.symm), ← List.getD_eq_getElem?_getD]
        exact keep (h3 j hj')
/-- A row of a round of f, the place of its greatest one, and what it is turned to. -/
theorem turn_of {f : Nat → Nat} {n x : Nat} (h : Pm f n) (hx : x < n) (m : Int) (he : ∃ k, k < (ints (orb f n x)).length ∧ (ints (orb f n x)).getD k 0 = m) (hall : ∀ k, k < (ints (orb f n x)).length → (ints (orb f n x)).getD k 0 ≤ m) :
    ∃ k : Nat, k < (ints (orb f n x)).length ∧ (ints (orb f n x)).getD k 0 = m ∧ (∀ j, j < k → (ints (orb f n x)).getD j 0 ≠ m) ∧ ∃ y, y ∈ orb f n x ∧ isH f n y = true ∧ (ints (orb f n x)).drop k ++ (ints (orb f n x)).take k = ints (orb f n y) := by
  obtain ⟨k, hk, rfl⟩ := he
  have hk' : k < per f n x := by simpa [ints, orb_len] using hk
  have get : ∀ j, j < per f n x → (ints (orb f n x)).getD j 0 = (it f j x : Nat) := fun j hj => by
    simp [ints, orb, List.getD_eq_getElem?_getD, hj]
  refine ⟨k, hk, rfl, fun j hj e => ?_, it f k x, (h.mem_orb hx _).2 ⟨k, rfl⟩, isH_iff.2 fun y hy => ?_, ?_⟩
  · rw [get j (by omega), get k hk'] at e
    have e : it f j x = it f k x := by omega
    have e2 : it f k x = it f j (it f (k - j) x) := by rw [← it_add]; congr 1; omega
    rw [e2] at e
    exact (h.per hx).2.2.2 (k - j) (by omega) (by omega) (h.inj j _ _ hx (h.lt _ _ hx) e).symm
  · have hy' := h.orb_trans hx ((h.mem_orb hx _).2 ⟨k, rfl⟩) hy
    obtain ⟨j, hj, rfl⟩ := List.mem_map.1 hy'
    have hj := List.mem_range.1 hj
    have := hall j (by simpa [ints, orb_len] using hj)
    rw [get j hj, get k hk'] at this
    omega
  · rw [← h.orb_turn hx hk', ints, ints, List.map_append, List.map_drop, List.map_take]
/-- Each round turned to its greatest, then put in order: the rows that Flat writes. -/
theorem sorted_rows {f : Nat → Nat} {n : Nat} (h : Pm f n) {Q S : List (List Nat)} (hl : Q.length = (lows f n n).length)
    (hQ : ∀ j, j < Q.length → ∃ y, y ∈ orb f n ((lows f n n).getD j 0) ∧ isH f n y = true ∧ Q.getD j [] = orb f n y) (hp : S.Perm Q) (hs : S.Pairwise (fun a b => a.headD 0 ≤ b.headD 0)) : S = hrows f n := by
  have hlow : ∀ j, j < Q.length → (lows f n n).getD j 0 < n ∧ isL f n ((lows f n n).getD j 0) = true := fun j hj => by
    have : (lows f n n).getD j 0 ∈ lows f n n := get_mem (by omega)
    obtain ⟨h1, h2⟩ := List.mem_filter.1 this
    exact ⟨List.mem_range.1 h1, h2⟩
  have hnd : (lows f n n).Nodup := List.nodup_range.sublist List.filter_sublist
  have hne : Q.Pairwise (fun a b => a.headD 0 ≠ b.headD 0) := by
    refine List.pairwise_iff_getElem.2 fun i j hi hj hij e => ?_
    obtain ⟨y, y1, y2, y3⟩ := hQ i hi
    obtain ⟨z, z1, z2, z3⟩ := hQ j hj
    rw [List.getD_eq_getElem?_getD, List.getElem?_eq_getElem hi, Option.getD_some] at y3
    rw [List.getD_eq_getElem?_getD, List.getElem?_eq_getElem hj, Option.getD_some] at z3
    have a := hlow i hi
    have b := hlow j hj
    rw [y3, z3, (h.orb_head (h.orb_lt a.1 y1)).1, (h.orb_head (h.orb_lt b.1 z1)).1] at e
    subst e
    have := low_uniq h a.1 (h.orb_trans a.1 y1 (h.orb_symm b.1 z1)) a.2 b.2
    have := get_inj hnd (by omega) (by omega) this
    omega
  have hHs : Hs S := (hs.and ((hp.symm.pairwise hne) (fun e => Ne.symm e))).imp fun ⟨a, b⟩ => by omega
  refine h.sorted_eq (T := Q) (fun r => ⟨fun hr => ?_, fun ⟨x, h1, h2, m, h3, h4, h5⟩ => ?_⟩) hp hHs
  · obtain ⟨j, hj, e⟩ := List.getElem_of_mem hr
    obtain ⟨y, y1, y2, y3⟩ := hQ j hj
    rw [List.getD_eq_getElem?_getD, List.getElem?_eq_getElem hj, Option.getD_some, e] at y3
    exact ⟨_, (hlow j hj).1, (hlow j hj).2, y, y1, y2, y3⟩
  · have hx : x ∈ lows f n n := List.mem_filter.2 ⟨List.mem_range.2 h1, h2⟩
    obtain ⟨j, hj, e⟩ := List.getElem_of_mem hx
    have e2 : (lows f n n).getD j 0 = x := by rw [List.getD_eq_getElem?_getD, List.getElem?_eq_getElem hj]; exact e
    obtain ⟨y, y1, y2, y3⟩ := hQ j (by omega)
    rw [e2] at y1
    have : m = y := high_uniq h (h.orb_lt h1 h3) (h.orb_trans (h.orb_lt h1 h3) (h.orb_symm h1 h3) y1) h4 y2
    subst this
    rw [h5, ← y3]
    rw [List.getD_eq_getElem?_getD, List.getElem?_eq_getElem (by omega)]
    exact List.getElem_mem (by omega)
theorem ints_inj {a b : List Nat} (h : ints a = ints b) : a = b := by
  have := congrArg (List.map Int.toNat) h
  simpa [ints, List.map_map, Function.comp_def] using this
/-- Rows of naturals, sorted as rows of ints. -/
theorem perm_rows {Q : List (List Nat)} {yss : List (List Int)} (hp : yss.Perm (rows Q)) : ∃ S : List (List Nat), yss = rows S ∧ S.Perm Q := by
  refine ⟨yss.map (List.map Int.toNat), ?_, ?_⟩
  · unfold rows
    rw [List.map_map]
    have : ∀ r ∈ yss, (ints ∘ List.map Int.toNat) r = r := fun r hr => by
      obtain ⟨q, -, rfl⟩ := List.mem_map.1 (hp.mem_iff.1 hr)
      simp [ints, List.map_map, Function.comp_def]
    conv => lhs; rw [← List.map_id yss]
    exact List.map_congr_left fun r hr => (this r hr).symm
  · have := hp.map (List.map Int.toNat)
    have e : (rows Q).map (List.map Int.toNat) = Q := by
      unfold rows
      rw [List.map_map]
      conv => rhs; rw [← List.map_id Q]
      exact List.map_congr_left fun r _ => by simp [ints, List.map_map, Function.comp_def]
    rwa [e] at this
theorem ints_head (r : List Nat) : (ints r).getD 0 0 = (r.headD 0 : Nat) := by cases r <;> simp [ints]
theorem rows_flat (S : List (List Nat)) : (rows S).flatten = ints S.flatten := by unfold rows ints; rw [List.map_flatten]
theorem OM.cat {w : World} {base n c : Nat} {a : Option Addr} {zss : List (List Int)} (h : OM w base (.slice a n c) zss) (hl : zss.length = n) :
    n ≤ c ∧ c ≤ 9223372036854775807 ∧ (0 < n → ∃ (b off : Nat) (U : Nat → Value), a = some ⟨b, off, none⟩ ∧ b < w.heap.size ∧ ∀ i, i < n → w.cell? ⟨b, off + i, none⟩ = some (U i) ∧ RdC w (U i) (zss.getD i [])) := by
  have hr := h.rd
  obtain ⟨V, h1, h2, h3⟩ := h
  obtain ⟨a', c', he, hc1, hc2, -⟩ := hr.open
  injection he with he1 he2 he3
  subst he1 he3
  rw [hl] at hc1
  refine ⟨hc1, hc2, fun h0 => ?_⟩
  rw [hl] at h1 h3
  obtain ⟨g, cap, hv, -, -, -, hgw, hcell⟩ := own_open h1 h0
  injection hv with hv1
  subst hv1
  refine ⟨g, 0, V, rfl, hgw, fun i hi => ⟨?_, (h3 i hi).rdc⟩⟩
  rw [Nat.zero_add]
  exact hcell i (V i) (by simp [hi])
set_option maxRecDepth 20000 in
set_option maxHeartbeats 3200000 in
theorem flat_ok (v : Value) (zs : List Int) (w : World) (h : Rd w v zs) (k1 : OkP zs) :
    Calls Try.prog 20 #[v] w fun e w' => Below w.heap.size w w' ∧ ∃ u, e = .returned (.tuple #[u, .int .i64 0]) ∧ Rd w' u (ints (hrows (nd zs) zs.length).flatten) := by
  have HR := Lib.hid (of_ok v zs w h k1)
  have hn := k1.1
  have HP := Lib.hid k1.pm
  have hRl := cyc_len_le (nd zs) zs.length zs.length
  generalize nd zs = f at *
  generalize zs.length = n at *
  obtain ⟨lw, hlw⟩ : ∃ lw, lows f n n = lw := ⟨_, rfl⟩
  have hcy : cyc f n n = lw.map (orb f n) := by rw [← hlw]; rfl
  rw [hcy] at HR hRl
  obtain ⟨m, hm⟩ : ∃ m, lw.length = m := ⟨_, rfl⟩
  have HLOW : Hid (∀ j, j < m → lw.getD j 0 < n) := fun j hj => by
    have : lw.getD j 0 ∈ lw := get_mem (by omega)
    rw [← hlw] at this
    obtain ⟨h1, h2⟩ := List.mem_filter.1 this
    rw [hlw] at h1
    exact List.mem_range.1 h1
  have HLN : Hid ((rows (lw.map (orb f n))).length = m) := by show _ = _; rw [rows_len, List.length_map, hm]
  have HM := Lib.hid hm
  have HLW := Lib.hid hlw
  have HG0 : Hid (∀ j, j < m → (lw.map (orb f n)).getD j [] = orb f n (lw.getD j 0)) := fun j hj => by
    simp [List.getD_eq_getElem?_getD, List.getElem?_eq_getElem (show j < lw.length by omega)]
  have HQ0 : Hid ((lw.map (orb f n)).length = m) := by show _ = _; rw [List.length_map, hm]
  rw [List.length_map, hm] at hRl
  clear h k1 hcy hm hlw
  go_enter Try.func20, Try.ntmps20
  go_wp2_with fail
  refine HR.out.mono ?_
  rintro e w1 ⟨hb1, u, rfl, hom⟩
  have HB1 := Lib.hid hb1
  obtain ⟨ua, uc, rfl⟩ := hom.shape
  obtain ⟨a', c', hu, huc, huc2, -⟩ := hom.rd.open
  injection hu with hu1 hu2 hu3
  subst hu1 hu3
  rw [HLN.out] at huc ⊢
  have HOM := Lib.hid hom
  have HGA : Hid (0 < m → ∃ g, ua = some ⟨g, 0, none⟩ ∧ w.heap.size ≤ g) := fun h0 => by
    obtain ⟨V, h1, -, -⟩ := hom
    obtain ⟨g, cap, hv, -, -, h3, -⟩ := own_open h1 (by rw [HLN.out]; exact h0)
    injection hv with hv1
    exact ⟨g, hv1, h3⟩
  rw [HLN.out] at HOM
  clear hb1 hom hu2
  go_wp2_with fail
  go_loopw [19, 6, 7, 8] (fun iv _ _ _ wr => ∃ (i : Nat) (Q : List (List Nat)), i ≤ m ∧ iv = .int .i64 i ∧ Below w.heap.size w wr ∧ Hid (Q.length = m) ∧ Hid (OM wr w.heap.size (.slice ua m uc) (rows Q)) ∧ Hid (∀ j, j < m → (j < i → ∃ y, y ∈ orb f n (lw.getD j 0) ∧ isH f n y = true ∧ Q.getD j [] = orb f n y) ∧ (i ≤ j → Q.getD j [] = orb f n (lw.getD j 0)))) (fun iv _ _ _ _ => m - (intOf iv).toNat)
  case atStart => exact ⟨0, _, Nat.zero_le _, rfl, HB1.out, HQ0, HOM, fun j hj => ⟨fun h => by omega, fun _ => HG0.out j hj⟩⟩
  case round =>
    clear HOM HB1
    obtain ⟨i, Q, hi, rfl, hbel, hQl, hom, hQ⟩ := hrel
    by_cases hlt : i < m
    · have h0 : 0 < m := by omega
      obtain ⟨g, rfl, hwg⟩ := HGA.out h0
      obtain ⟨x, hx⟩ : ∃ x, lw.getD i 0 = x := ⟨_, rfl⟩
      have hxn := HLOW.out i hlt
      have hQi := (hQ.out i hlt).2 (Nat.le_refl _)
      rw [hx] at hxn hQi
      have hpl := (HP.out.per hxn).2.2.1
      have hp0 := (HP.out.per hxn).2.1
      obtain ⟨V, hV1, -, hV3⟩ := hom.out
      have hrl : (rows Q).length = m := by rw [rows_len]; exact hQl.out
      rw [hrl] at hV1 hV3
      obtain ⟨g', cap', hv, -, -, -, hgw, hcell⟩ := own_open hV1 h0
      injection hv with hv1 hv2 hv3
      injection hv1 with hv1
      injection hv1 with hv1 _ _
      subst hv1
      have cl := hcell i (V i) (by simp [hlt])
      have hfz := World.ownsRow.frozenAt hV1 i
      have hrow := hV3 i hlt
      rw [show (rows Q).getD i [] = ints (orb f n x) by rw [← hQi]; simp [rows, List.getD_eq_getElem?_getD, List.getElem?_eq_getElem (show i < Q.length by rw [hQl.out]; exact hlt)]] at hrow
      have HTN := Lib.hid (fun mx he hall => turn_of HP.out hxn mx he hall)
      have HRW := Lib.hid hrow
      have hil : (ints (orb f n x)).length = per f n x := by simp [ints, orb_len]
      rw [hil] at HTN
      obtain ⟨r, hr⟩ : ∃ r, ints (orb f n x) = r := ⟨_, rfl⟩
      obtain ⟨L, hL⟩ : ∃ L, per f n x = L := ⟨_, rfl⟩
      rw [hr] at hil HTN HRW
      rw [hL] at hil HTN hpl hp0
      obtain ⟨ra, rc, hVi, hrc, hrc2, hra0, hra⟩ := HRW.out
      rw [hil] at hVi hrc hra
      obtain ⟨rb, roff, rfl, hrb, hrbw, -, -⟩ := hra hp0
      unfold maxLen at hrc2
      rw [hVi] at cl HRW
      have HRD := Lib.hid HRW.out.rd
      have HLL := Lib.hid hil
      have HMX := Lib.hid (max_any _ r wr HRD.out (by omega))
      have HBE := Lib.hid hbel
      have HX := Lib.hid hx
      clear hx hQi hV1 hV3 hrl hcell hrow hil hr hL hVi hra hra0 hbel hv2 hv3
      go_wp2_with fail
      refine HMX.out.mono ?_
      rintro e w2 ⟨mx, rfl, hmx1, hmx2, rfl⟩
      rw [HLL.out] at hmx1 hmx2
      obtain ⟨k, hk, hk1, hk2, y, hy1, hy2, hy3⟩ := HTN.out mx hmx1 hmx2
      have HIX := Lib.hid (index_any _ r mx k w2 HRD.out (by rw [HLL.out]; exact hk) hk1 hk2)
      have HY1 := Lib.hid hy1
      have HY2 := Lib.hid hy2
      have HY3 := Lib.hid hy3
      clear hmx1 hmx2 hk1 hk2 hy1 hy2 hy3
      go_wp2_with fail
      refine HIX.out.mono ?_
      rintro e w3 ⟨rfl, rfl⟩
      go_wp2_with fail
      have hcn : (rc - k = 0) = False := eq_false (by omega)
      have hcn2 : (rc = k) = False := eq_false (by omega)
      have HCON : Hid (Calls Try.prog 27 #[.slice (some ⟨w3.heap.size, 0, none⟩) 2 2] (w3.drew.alloc (.cells #[.slice (some ⟨rb, roff + k, none⟩) (L - k) (rc - k), .slice (some ⟨rb, roff, none⟩) k rc] 22)) fun e w' => Below w3.heap.size w3 w' ∧ ∃ na nl nc, e = .returned (.slice na nl nc) ∧ RowAt w' w.heap.size (.slice na nl nc) (ints (orb f n y))) := by
        have hsz : w3.heap.size ≤ w3.drew.heap.size := Nat.le_refl _
        have hb : Below w3.heap.size w3 (w3.drew.alloc (.cells #[.slice (some ⟨rb, roff + k, none⟩) (L - k) (rc - k), .slice (some ⟨rb, roff, none⟩) k rc] 22)) := ((Below.refl _ _).drew).alloc (Nat.le_refl _) _
        have hrd : Rd w3 (.slice (some ⟨rb, roff, none⟩) L rc) r := HRD.out
        have hd : Rd w3 (.slice (some ⟨rb, roff + k, none⟩) (L - k) (rc - k)) (r.drop k) := by
          have := (hrd.drop (k := k) (by omega)).1 (by omega)
          simpa only [Option.map_some, WideShapes.add_plain] using this
        have ht := hrd.take (k := k) (by omega)
        have hll : r.length = L := HLL.out
        have hrow : ∀ i, i < 2 → (w3.drew.alloc (.cells #[.slice (some ⟨rb, roff + k, none⟩) (L - k) (rc - k), .slice (some ⟨rb, roff, none⟩) k rc] 22)).cell? ⟨w3.heap.size, 0 + i, none⟩ = some (if i = 0 then .slice (some ⟨rb, roff + k, none⟩) (L - k) (rc - k) else .slice (some ⟨rb, roff, none⟩) k rc) ∧
            RdC (w3.drew.alloc (.cells #[.slice (some ⟨rb, roff + k, none⟩) (L - k) (rc - k), .slice (some ⟨rb, roff, none⟩) k rc] 22)) (if i = 0 then .slice (some ⟨rb, roff + k, none⟩) (L - k) (rc - k) else .slice (some ⟨rb, roff, none⟩) k rc) ([r.drop k, r.take k].getD i []) := by
          intro i hi
          match i, hi with
          | 0, _ =>
            refine ⟨by rw [show (w3.heap.size : Nat) = w3.drew.heap.size from rfl, cell_of_row _ _ _ _ _ _ (heap_alloc_new w3.drew _)]; rfl, _, _, by simp [hll]; exact ⟨rfl, rfl⟩, fun h => by simp at h, ?_⟩
            exact hd.below hb (Nat.le_refl _)
          | 1, _ =>
            refine ⟨by rw [show (w3.heap.size : Nat) = w3.drew.heap.size from rfl, cell_of_row _ _ _ _ _ _ (heap_alloc_new w3.drew _)]; rfl, _, _, by simp [hll, Nat.min_eq_left (Nat.le_of_lt hk)]; exact ⟨rfl, rfl⟩, fun h => by simp at h, ?_⟩
            exact ht.below hb (Nat.le_refl _)
        have hfl : [r.drop k, r.take k].flatten = ints (orb f n y) := by rw [← HY3.out]; simp
        refine (concatn_any (some ⟨w3.heap.size, 0, none⟩) 2 2 [r.drop k, r.take k] _ rfl (Nat.le_refl _) (by decide) (fun _ => ⟨w3.heap.size, 0, fun i => if i = 0 then .slice (some ⟨rb, roff + k, none⟩) (L - k) (rc - k) else .slice (some ⟨rb, roff, none⟩) k rc, rfl, by simp [World.alloc], hrow⟩) (by simp [hll]; omega)).mono ?_
        rintro e w' ⟨hb', v, rfl, hown⟩
        rw [hfl] at hown
        have hra := (RowAt.own hown).lower (Nat.le_trans HBE.out.size hb.size)
        obtain ⟨na, nc, rfl, -⟩ := id hra
        exact ⟨hb.trans (hb'.mono hb.size), na, _, nc, rfl, hra⟩
      have HCF : Hid (∀ w4, Below w3.heap.size w3 w4 → w4.cell? ⟨g, i, none⟩ = some (.slice (some ⟨rb, roff, none⟩) L rc)) := fun w4 hb => ((bcell hb).1 g i hgw).trans cl
      have HFF : Hid (∀ w4, Below w3.heap.size w3 w4 → w4.frozen? ⟨g, i, none⟩ = false) := fun w4 hb => ((bcell hb).2 g i hgw).trans hfz
      go_region_with (go_at_call 27; refine HCON.out.mono ?_; rintro e w4 ⟨hb4, na, nl, nc, rfl, hnv⟩; (have c4 := HCF.out w4 hb4); (have f4 := HFF.out w4 hb4))
      all_goals
        have HOM5 : Hid (OM (w4.setCell ⟨g, i, none⟩ (.slice na nl nc)) w.heap.size (.slice (some ⟨g, 0, none⟩) m uc) (rows (Q.set i (orb f n y)))) := by
          have := (hom.out.below hb4 (Nat.le_refl _)).put (k := i) (by rw [rows_len, hQl.out]; exact hlt) hnv
          rwa [show (rows Q).set i (ints (orb f n y)) = rows (Q.set i (orb f n y)) by unfold rows; rw [List.map_set]] at this
        have HB5 := Lib.hid ((HBE.out.trans (hb4.mono HBE.out.size)).setCell (show w.heap.size ≤ (⟨g, i, none⟩ : Addr).block from hwg) (.slice na nl nc))
        have HQ5 : Hid (∀ j, j < m → (j < i + 1 → ∃ z, z ∈ orb f n (lw.getD j 0) ∧ isH f n z = true ∧ (Q.set i (orb f n y)).getD j [] = orb f n z) ∧ (i + 1 ≤ j → (Q.set i (orb f n y)).getD j [] = orb f n (lw.getD j 0))) := fun j hj => by
          by_cases e : j = i
          · subst e
            refine ⟨fun _ => ⟨y, by rw [HX.out]; exact HY1.out, HY2.out, ?_⟩, fun h => by omega⟩
            rw [List.getD_eq_getElem?_getD, List.getElem?_set_self (by rw [hQl.out]; exact hlt)]; rfl
          · have e2 : (Q.set i (orb f n y)).getD j [] = Q.getD j [] := by
              rw [List.getD_eq_getElem?_getD, List.getElem?_set_ne (fun h => e h.symm), ← List.getD_eq_getElem?_getD]
            rw [e2]
            exact ⟨fun h => (hQ.out j hj).1 (by omega), fun h => (hQ.out j hj).2 (by omega)⟩
        have HL5 : Hid ((Q.set i (orb f n y)).length = m) := by show _ = _; rw [List.length_set, hQl.out]
        clear hb4 hnv c4 f4 HCF HFF HCON hom hQ hQl
        go_wp2_with fail
        exact ⟨⟨i + 1, _, by omega, by go_num, HB5.out, HL5, HOM5, HQ5⟩, by simp [intOf]; omega⟩
    · obtain rfl : i = m := by omega
      have HQL : Hid (Q.length = (lows f n n).length) := by show _ = _; rw [hQl.out, HLW.out, HM.out]
      have HQ9 : Hid (∀ j, j < Q.length → ∃ y, y ∈ orb f n ((lows f n n).getD j 0) ∧ isH f n y = true ∧ Q.getD j [] = orb f n y) := fun j hj => by
        rw [hQl.out] at hj
        rw [HLW.out]
        exact (hQ.out j hj).1 hj
      have HBE := Lib.hid hbel
      have hrl : (rows Q).length = i := by rw [rows_len, hQl.out]
      have HFL : Hid (∀ S : List (List Nat), S.Perm Q → S.Pairwise (fun a b => a.headD 0 ≤ b.headD 0) → S = hrows f n) := fun S h1 h2 => sorted_rows HP.out HQL.out HQ9.out h1 h2
      have HFLN : Hid ((ints (hrows f n).flatten).length ≤ 20) := by
        show _ ≤ _
        have := HP.out.hflat_perm.length_eq
        rw [ints, List.length_map, this, List.length_range]
        exact hn
      have HEAD : Hid (∀ j, j < i → 0 < ((rows Q).getD j []).length ∧ 0 ≤ ((rows Q).getD j []).getD 0 0 ∧ ((rows Q).getD j []).getD 0 0 ≤ 1000) := fun j hj => by
        obtain ⟨y, y1, y2, y3⟩ := HQ9.out j (by rw [hQl.out]; exact hj)
        have hyn := HP.out.orb_lt (by rw [HLW.out]; exact HLOW.out j hj) y1
        have e : (rows Q).getD j [] = ints (orb f n y) := by
          rw [← y3]; simp [rows, List.getD_eq_getElem?_getD, List.getElem?_eq_getElem (show j < Q.length by rw [hQl.out]; exact hj)]
        rw [e, ints_head, (HP.out.orb_head hyn).1]
        refine ⟨?_, by omega, by omega⟩
        have := List.length_pos_iff.2 (HP.out.orb_head hyn).2
        simpa [ints] using this
      have HSORT : Hid (Calls Try.prog 28 #[.slice ua i uc, .func (.func 29) #[] #[]] wr fun e w' => e = .returned (.tuple #[]) ∧ ∃ S : List (List Nat), S = hrows f n ∧ S.length = i ∧ OM w' w.heap.size (.slice ua i uc) (rows S) ∧ Below w.heap.size wr w') := by
        by_cases h0 : 0 < i
        · refine (sort_rows w.heap.size (.slice ua i uc) (rows Q) wr hom.out (by rw [hrl]; exact h0) (by rw [hrl]; omega) (fun j hj => HEAD.out j (by rw [hrl] at hj; exact hj))).mono ?_
          rintro e w' ⟨rfl, yss, hp, hs, ho, hb⟩
          obtain ⟨S, rfl, hpS⟩ := perm_rows hp
          refine ⟨rfl, S, HFL.out S hpS ?_, hpS.length_eq.trans hQl.out, ho, hb⟩
          have := List.pairwise_map.1 hs
          exact this.imp fun {a b} h => by rw [ints_head, ints_head] at h; omega
        · obtain rfl : i = 0 := by omega
          refine (sort0 ua uc (.func (.func 29) #[] #[]) wr).mono ?_
          rintro e w' ⟨rfl, rfl⟩
          have hQ0 : Q = [] := List.eq_nil_of_length_eq_zero hQl.out
          refine ⟨rfl, Q, HFL.out Q (List.Perm.refl _) (by rw [hQ0]; exact List.Pairwise.nil), hQl.out, hom.out, Below.refl _ _⟩
      clear hbel hom hQ hQl HFL HQ9 HEAD hrl HQL
      go_wp2_with fail
      refine HSORT.out.mono ?_
      rintro e w2 ⟨rfl, S, hS, hSl, ho, hb⟩
      obtain ⟨c1, c2, c3⟩ := ho.cat (by rw [rows_len]; exact hSl)
      have HB2 := Lib.hid (HBE.out.trans hb)
      rw [← hS] at HFLN
      have HS := Lib.hid hS
      have HCON := Lib.hid (concatn_any ua i uc (rows S) w2 (by rw [rows_len]; exact hSl) c1 c2 c3 (by rw [rows_flat]; have := HFLN.out; omega))
      have HRF := Lib.hid (rows_flat S)
      clear c3 ho hb hS hSl
      go_wp2_with fail
      refine HCON.out.mono ?_
      rintro e w3 ⟨hb3, v3, rfl, hown⟩
      rw [HRF.out] at hown
      have HRD := Lib.hid (Rd.own hown)
      have HB3 := Lib.hid (HB2.out.trans (hb3.mono HB2.out.size))
      clear hb3 hown
      go_wp2_with fail
      go_ret2
      exact ⟨HB3.out, _, rfl, by rw [← HS.out]; exact HRD.out⟩
end Go.Proofs.Ythnalgkojoeniaa
