/- cycles.Back: the order that has these rounds. Conditions: each number once, few; the order that leads on as the rounds do. -/
import Derived.Test.YthnalgkojoeniaaRep
import Derived.Test.YthnalgkojoeniaaFlatL
import Derived.Test.YthnalgkojoeniaaCyclesOddW
set_option linter.unusedSimpArgs false
set_option linter.unusedVariables false
namespace Go.Proofs.Ythnalgkojoeniaa
open Go.RowKit
/-- What the marks say: those of the first p have their next ones. -/
def Mb (fl : List Nat) (F : Nat → Nat) (n p : Nat) (c : List Int) : Prop := c.length = n ∧ ∀ x, x < n → c.getD x 0 = if x ∈ fl.take p then (F x : Int) else -1
theorem Mb.zero (fl : List Nat) (F : Nat → Nat) (n : Nat) : Mb fl F n 0 (List.replicate n (-1)) := by
  refine ⟨by simp, fun x hx => ?_⟩
  simp [List.getD_eq_getElem?_getD, List.getElem?_replicate, hx]
theorem take_s (fl : List Nat) (p : Nat) (h : p < fl.length) : fl.take (p + 1) = fl.take p ++ [fl.getD p 0] := by
  rw [List.take_add_one, List.getElem?_eq_getElem h, List.getD_eq_getElem?_getD, List.getElem?_eq_getElem h]; rfl
theorem fresh_at {fl : List Nat} (hn : fl.Nodup) {p : Nat} (h : p < fl.length) : fl.getD p 0 ∉ fl.take p := by
  intro hm
  obtain ⟨i, hi, e⟩ := List.getElem_of_mem hm
  rw [List.length_take] at hi
  rw [List.getElem_take] at e
  have : i = p := get_inj hn (by omega) h (by rw [List.getD_eq_getElem?_getD, List.getElem?_eq_getElem (by omega)]; exact e)
  omega
theorem Mb.step {fl : List Nat} {F : Nat → Nat} {n p : Nat} {c : List Int} (hm : Mb fl F n p c) (h : p < fl.length) (hx : fl.getD p 0 < n) : Mb fl F n (p + 1) (c.set (fl.getD p 0) (F (fl.getD p 0) : Nat)) := by
  refine ⟨by simpa using hm.1, fun x hx2 => ?_⟩
  rw [take_s fl p h]
  by_cases e : fl.getD p 0 = x
  · subst e
    rw [List.getD_eq_getElem?_getD, List.getElem?_set_self (by rw [hm.1]; exact hx), if_pos (by simp)]; rfl
  · rw [List.getD_eq_getElem?_getD, List.getElem?_set_ne e, ← List.getD_eq_getElem?_getD, hm.2 x hx2]
    by_cases e2 : x ∈ fl.take p
    · rw [if_pos e2, if_pos (List.mem_append_left _ e2)]
    · rw [if_neg e2, if_neg (by rw [List.mem_append, not_or]; exact ⟨e2, by simpa using fun h => e h.symm⟩)]
theorem Mb.done {fl : List Nat} {F : Nat → Nat} {n : Nat} {c : List Int} (hm : Mb fl F n fl.length c) (hp : fl.Perm (List.range n)) : c = tabI n F := by
  apply List.ext_getElem (by rw [hm.1, tabI_len])
  intro i a b
  have hi : i < n := by rw [← hm.1]; exact a
  have := hm.2 i hi
  rw [List.take_length, if_pos (hp.mem_iff.2 (List.mem_range.2 hi)), List.getD_eq_getElem?_getD, List.getElem?_eq_getElem a] at this
  simp only [Option.getD_some] at this
  rw [this]
  simp [tabI]
/-- How many lie ahead of row i. -/
def ahd (L : List (List Nat)) (i : Nat) : Nat := (L.take i).flatten.length
theorem ahd_succ {L : List (List Nat)} {i : Nat} (h : i < L.length) : ahd L (i + 1) = ahd L i + (L.getD i []).length := by
  unfold ahd
  have e : L.take (i + 1) = L.take i ++ [L.getD i []] := by
    rw [List.take_add_one, List.getElem?_eq_getElem h, List.getD_eq_getElem?_getD, List.getElem?_eq_getElem h]; rfl
  rw [e, List.flatten_append, List.flatten_singleton, List.length_append]
theorem ints_get (r : List Nat) (k : Nat) (h : k < r.length) : (ints r).getD k 0 = (r.getD k 0 : Nat) := by
  unfold ints
  rw [List.getD_eq_getElem?_getD, List.getElem?_map, List.getElem?_eq_getElem h, List.getD_eq_getElem?_getD, List.getElem?_eq_getElem h]; rfl
theorem ahd_get {L : List (List Nat)} {i k : Nat} (h : i < L.length) (hk : k < (L.getD i []).length) : L.flatten.getD (ahd L i + k) 0 = (L.getD i []).getD k 0 ∧ ahd L i + k < L.flatten.length := by
  have e : L = L.take i ++ L.getD i [] :: L.drop (i + 1) := by
    rw [List.getD_eq_getElem?_getD, List.getElem?_eq_getElem h, Option.getD_some]
    conv => lhs; rw [← List.take_append_drop i L, List.drop_eq_getElem_cons h]
  have e2 : L.flatten = (L.take i).flatten ++ ((L.getD i []) ++ (L.drop (i + 1)).flatten) := by
    conv => lhs; rw [e, List.flatten_append, List.flatten_cons]
  rw [e2]
  unfold ahd
  constructor
  · rw [List.getD_eq_getElem?_getD, List.getElem?_append_right (by omega), show (L.take i).flatten.length + k - (L.take i).flatten.length = k by omega, List.getElem?_append_left hk, ← List.getD_eq_getElem?_getD]
  · rw [List.length_append, List.length_append]; omega
set_option maxRecDepth 20000 in
set_option maxHeartbeats 3200000 in
theorem back_rows (v : Value) (L : List (List Nat)) (n : Nat) (F : Nat → Nat) (w : World) (h : RdM w v (rows L)) (hp : L.flatten.Perm (List.range n)) (hn : n ≤ 20) (hF : Pm F n) (hFL : ∀ i, i < L.length → ∀ k, k < (L.getD i []).length → F ((L.getD i []).getD k 0) = (L.getD i []).getD ((k + 1) % (L.getD i []).length) 0) (hm20 : L.length ≤ 20) :
    Calls Try.prog 19 #[v] w fun e w' => Below w.heap.size w w' ∧ ∃ u, e = .returned (.tuple #[u, .int .i64 0]) ∧ Rd w' u (tabI n F) := by
  have hnd : L.flatten.Nodup := hp.symm.nodup List.nodup_range
  have hfl : L.flatten.length = n := by rw [hp.length_eq, List.length_range]
  have HP := Lib.hid hp
  have HND := Lib.hid hnd
  have HFL := Lib.hid hFL
  have HLT : Hid (∀ x ∈ L.flatten, x < n) := fun x hx => List.mem_range.1 (hp.mem_iff.1 hx)
  obtain ⟨a, cap, rfl, hlc, hcm, hop⟩ := h.open
  have HOP := Lib.hid hop
  have HAS : Hid (∀ i, i < L.length → ahd L (i + 1) = ahd L i + (L.getD i []).length) := fun i hi => ahd_succ hi
  have HAG : Hid (∀ i, i < L.length → ∀ k, k < (L.getD i []).length → L.flatten.getD (ahd L i + k) 0 = (L.getD i []).getD k 0 ∧ ahd L i + k < n) := fun i hi k hk => by have := ahd_get hi hk; exact ⟨this.1, by omega⟩
  have HAL : Hid (ahd L L.length = n) := by show _ = _; unfold ahd; rw [List.take_length, hfl]
  have HALE : Hid (∀ i, ahd L i ≤ n) := fun i => by
    show _ ≤ _
    rw [← hfl]
    conv => rhs; rw [← List.take_append_drop i L, List.flatten_append, List.length_append]
    unfold ahd; omega
  have HRG : Hid (∀ i, i < L.length → (rows L).getD i [] = ints (L.getD i [])) := fun i hi => by simp [rows, List.getD_eq_getElem?_getD, List.getElem?_eq_getElem hi]
  have HOK := Lib.hid (okp_of hn hF)
  have HLN := Lib.hid hfl
  rw [rows_len] at hlc HOP ⊢
  obtain ⟨m, hm⟩ : ∃ m, L.length = m := ⟨_, rfl⟩
  rw [hm] at hlc HOP HFL HAS HAG HAL HRG hm20 ⊢
  clear h hp hF hFL hop hnd hfl hm
  go_enter Try.func19, Try.ntmps19
  go_wp2_with fail
  go_loopw [14, 4, 6] (fun iv sv _ wr => ∃ i s : Nat, i ≤ m ∧ iv = .int .i64 i ∧ sv = .int .i64 s ∧ w = wr ∧ Hid (ahd L i = s)) (fun iv _ _ _ => m - (intOf iv).toNat)
  case atStart => exact ⟨0, 0, Nat.zero_le _, rfl, rfl, rfl, by show _ = _; simp [ahd]⟩
  case round =>
    obtain ⟨i, s, hi, rfl, rfl, rfl, hs⟩ := hrel
    by_cases hlt : i < m
    · obtain ⟨b, off, U, rfl, hb, hc⟩ := HOP.out (by omega)
      obtain ⟨cx, hrd⟩ := hc i hlt
      rw [HRG.out i hlt] at hrd
      obtain ⟨ra, rc, hUi, -, -, -⟩ := hrd.open
      rw [hUi] at cx
      have hil : (ints (L.getD i [])).length = (L.getD i []).length := by simp [ints]
      rw [hil] at cx
      have hs2 := HAS.out i hlt
      have hle := HALE.out (i + 1)
      obtain ⟨k, hk⟩ : ∃ k, (L.getD i []).length = k := ⟨_, rfl⟩
      rw [hk] at cx hs2
      rw [hs2, hs.out] at hle
      have HS2 : Hid (ahd L (i + 1) = s + k) := by show _ = _; rw [hs2, hs.out]
      clear hc hrd hUi hil hs2 hk
      go_wp2_with fail
      exact ⟨⟨i + 1, s + k, by omega, by go_num, by go_num, by first | rfl | trivial, HS2⟩, by simp [intOf]; omega⟩
    · obtain rfl : i = m := by omega
      have e := hs.out
      rw [HAL.out] at e
      subst e
      have f1 : decide (20 < (n : Int)) = false := decide_eq_false (by omega)
      clear hs
      have HREP := Lib.hid (repeat_any n (-1) w.heap.size (by omega) (w.alloc (.cells #[.int .i64 (-1)] 3)) (by rw [cell_of_row _ _ _ _ _ _ (heap_alloc_new w _)]; rfl))
      go_wp2_with fail
      refine HREP.out.mono ?_
      rintro e w1 ⟨hb1, g, rfl, hg, hown⟩
      have hal := (Below.refl w.heap.size w).alloc (Nat.le_refl _) (.cells #[.int .i64 (-1)] 3)
      have HB1 := Lib.hid (hal.trans (hb1.mono hal.size))
      have HO1 := Lib.hid (own_base (base' := w.heap.size) hown hal.size)
      have hgw : w.heap.size ≤ g := Nat.le_trans hal.size hg
      clear hb1 hown hg hal HREP
      go_wp2_with fail
      go_loopw [30, 9, 10, 11, 36] (fun iv _ _ _ _ wr => ∃ (j : Nat) (c : List Int), j ≤ i ∧ iv = .int .i64 j ∧ Below w.heap.size w wr ∧ wr.ownsRow w.heap.size 3 1 (.slice (some ⟨g, 0, none⟩) n n) n (c.map (Value.int .i64)) ∧ Hid (Mb L.flatten F n (ahd L j) c)) (fun iv _ _ _ _ _ => i - (intOf iv).toNat)
      case atStart => exact ⟨0, _, Nat.zero_le _, rfl, HB1.out, HO1.out, Mb.zero _ _ _⟩
      case round =>
        clear HB1 HO1
        obtain ⟨j, c, hj, rfl, hbel, ho, hmb⟩ := hrel
        by_cases hjm : j < i
        · obtain ⟨b, off, U, rfl, hb, hc⟩ := HOP.out (by omega)
          obtain ⟨cx0, hrd⟩ := hc j hjm
          rw [HRG.out j hjm] at hrd
          obtain ⟨ra, rc, hUi, hrc, hrcm, hro⟩ := hrd.open
          have hil : (ints (L.getD j [])).length = (L.getD j []).length := by simp [ints]
          rw [hil] at hUi hrc
          rw [hUi] at cx0
          have cx := (World.cell?_of_block (hbel.block b hb)).trans cx0
          obtain ⟨K, hK⟩ : ∃ K, (L.getD j []).length = K := ⟨_, rfl⟩
          have HRC : Hid (∀ k, k < K → ∃ rb roff, ra = some ⟨rb, roff, none⟩ ∧ rb < w.heap.size ∧ ∀ k, k < K → w.cell? ⟨rb, roff + k, none⟩ = some (.int .i64 ((L.getD j []).getD k 0 : Nat))) := fun k hk => by
            obtain ⟨rb, roff, h1, h2, h3⟩ := hro k (by rw [hil, hK]; exact hk)
            refine ⟨rb, roff, h1, h2, fun k hk => ?_⟩
            rw [h3 k (by rw [hil, hK]; exact hk), ints_get _ _ (by rw [hK]; exact hk)]
          have HAGJ := Lib.hid (HAG.out j hjm)
          have HFLJ := Lib.hid (HFL.out j hjm)
          have HASJ := Lib.hid (HAS.out j hjm)
          rw [hK] at cx hrc HAGJ HFLJ HASJ
          have hKn : ahd L j + K ≤ n := by rw [← HASJ.out]; exact HALE.out (j + 1)
          have HBE := Lib.hid hbel
          have HO := Lib.hid ho
          obtain ⟨R, hR⟩ : ∃ R, L.getD j [] = R := ⟨_, rfl⟩
          rw [hR] at HRC HAGJ HFLJ
          obtain ⟨A, hA⟩ : ∃ A, ahd L j = A := ⟨_, rfl⟩
          rw [hA] at HAGJ HASJ hKn hmb
          clear hc cx0 hrd hUi hro hil hK hR hA hbel ho
          go_wp2_with fail
          go_loopw [36, 10, 11] (fun kv _ _ wr => ∃ (k : Nat) (c : List Int), k ≤ K ∧ kv = .int .i64 k ∧ Below w.heap.size w wr ∧ wr.ownsRow w.heap.size 3 1 (.slice (some ⟨g, 0, none⟩) n n) n (c.map (Value.int .i64)) ∧ Hid (Mb L.flatten F n (A + k) c)) (fun kv _ _ _ => K - (intOf kv).toNat)
          case atStart => exact ⟨0, c, Nat.zero_le _, rfl, HBE.out, HO.out, hmb⟩
          case round =>
            clear HBE HO hmb
            obtain ⟨k, c, hk, rfl, hbel, ho, hmb⟩ := hrel
            by_cases hkK : k < K
            · obtain ⟨e1, e2⟩ := HAGJ.out k hkK
              have e3 := HFLJ.out k hkK
              have hx : R.getD k 0 < n := by
                rw [← e1]
                exact HLT.out _ (by
                  rw [List.getD_eq_getElem?_getD, List.getElem?_eq_getElem (by rw [HLN.out]; exact e2)]
                  exact List.getElem_mem _)
              have e4 := hmb.out.2 _ hx
              have hfr := fresh_at HND.out (p := A + k) (by rw [HLN.out]; exact e2)
              rw [e1] at hfr
              rw [if_neg hfr] at e4
              have HMB := Lib.hid (hmb.out.step (by rw [HLN.out]; exact e2) (by rw [e1]; exact hx))
              rw [e1, e3] at HMB
              obtain ⟨rb, roff, rfl, hrb, hcs⟩ := HRC.out k hkK
              have hK0 : 0 < K := by omega
              have hml := Nat.mod_lt (k + 1) hK0
              have c1 := (World.cell?_of_block (hbel.block rb hrb)).trans (hcs k hkK)
              have c2 := (World.cell?_of_block (hbel.block rb hrb)).trans (hcs _ hml)
              have cO := own_get ho _ hx
              rw [e4] at cO
              have fO := World.ownsRow.frozenAt ho (R.getD k 0)
              have HST := Lib.hid (own_set ho (R.getD k 0) ((R.getD ((k + 1) % K) 0 : Nat) : Int))
              have HBS := Lib.hid (hbel.setCell (show w.heap.size ≤ (⟨g, R.getD k 0, none⟩ : Addr).block from hgw) (.int .i64 ((R.getD ((k + 1) % K) 0 : Nat) : Int)))
              have hmm : ((k : Int) + 1) % (K : Int) = (((k + 1) % K : Nat) : Int) := rfl
              have hKne : ((K : Int) == 0) = false := by simp; omega
              clear hcs e1 e2 e3 e4 hfr hbel ho hmb
              generalize R.getD ((k + 1) % K) 0 = y at *
              generalize (k + 1) % K = q at *
              generalize R.getD k 0 = x at *
              have f2 : decide ((x : Int) < 0) = false := decide_eq_false (by omega)
              have f3 : decide ((n : Int) ≤ (x : Int)) = false := decide_eq_false (by omega)
              have f4 : decide (n ≤ x) = false := decide_eq_false (by omega)
              go_wp2_with fail
              exact ⟨⟨k + 1, _, by omega, by go_num, HBS.out, HST.out, HMB⟩, by simp [intOf]; omega⟩
            · obtain rfl : k = K := by omega
              have HMB : Hid (Mb L.flatten F n (ahd L (j + 1)) c) := by rw [HASJ.out]; exact hmb
              have HBE := Lib.hid hbel
              have HO := Lib.hid ho
              clear hbel ho hmb
              go_wp2_with fail
              exact ⟨⟨j + 1, c, by omega, by go_num, HBE.out, HO.out, HMB⟩, by simp [intOf]; omega⟩
        · obtain rfl : j = i := by omega
          have hm := hmb.out
          rw [HAL.out, ← HLN.out] at hm
          have hc : c = tabI n F := by
            rw [HLN.out] at hm
            have h2 : Mb L.flatten F n L.flatten.length c := by rw [HLN.out]; exact hm
            exact h2.done HP.out
          rw [hc] at ho
          have HR := Lib.hid (Rd.own ho)
          have HBE := Lib.hid hbel
          have HRT := Lib.hid (right_any _ _ wr HR.out)
          rw [decide_eq_true HOK.out] at HRT
          clear hm hc ho hbel hmb
          go_wp2_with fail
          refine HRT.out.mono ?_
          rintro e w2 ⟨rfl, hb2⟩
          have HR2 := Lib.hid (HR.out.below hb2 (Nat.le_refl _))
          have HB2 := Lib.hid (HBE.out.trans (hb2.mono HBE.out.size))
          clear hb2
          go_wp2_with fail
          go_ret2
          exact ⟨HB2.out, _, rfl, HR2.out⟩
end Go.Proofs.Ythnalgkojoeniaa
