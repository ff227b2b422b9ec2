/- combo.Next: what it answers. No condition. -/
import Derived.Test.YtmiejokgjbnciaaRight
set_option linter.unusedSimpArgs false
set_option linter.unusedVariables false
namespace Go.Proofs.Ytmiejokgjbnciaa
open Go.RowKit
def Mov (n : Int) (zs : List Int) (k : Nat) : Prop := zs.getD k 0 + 1 < if k + 1 < zs.length then zs.getD (k + 1) 0 else n
def nxf (f : Nat → Int) (k i : Nat) : Int := if i < k then (i : Int) else if i = k then f k + 1 else f i
def NextPost (n : Int) (zs : List Int) (w : World) (e : Ending) (w' : World) : Prop :=
  Below w.heap.size w w' ∧
  ((∃ k v, k < zs.length ∧ (∀ j, j < k → ¬ Mov n zs j) ∧ Mov n zs k ∧ e = .returned (.tuple #[v, .int .i64 0]) ∧ Rd w' v (tab zs.length (nxf (fun i => zs.getD i 0) k))) ∨
   ((∀ j, j < zs.length → ¬ Mov n zs j) ∧ e = .returned (.tuple #[.slice none 0 0, .int .i64 3])))
set_option maxHeartbeats 1600000 in
theorem next_ok (n : Nat) (v : Value) (zs : List Int) (w : World) (h : Rd w v zs) (hr : RightP n zs) : Calls Try.prog 14 #[.int .i64 n, v] w (NextPost n zs w) := by
  obtain ⟨i0, hi, hz0, hz1, hz2⟩ := info_parts Try.info3t
  have H := Lib.hid (right_any n v zs w h)
  have HR := Lib.hid hr
  have hn60 : (n : Int) ≤ 60 := hr.2.1
  have HX : Hid (∀ i, i < zs.length → 0 ≤ zs.getD i 0 ∧ zs.getD i 0 < 61) := fun i hi => by
    obtain ⟨h1, h2, _⟩ := hr.2.2 i hi
    have h4 : zs.getD i 0 < (n : Int) := h2
    exact ⟨h1, by omega⟩
  have hlen : zs.length ≤ 60 := by have := rising_len hr.2.2 (by omega); omega
  clear hr
  obtain ⟨a, cap, rfl, hlc, hcm, hop⟩ := h.open
  clear h
  have HO := Lib.hid hop; clear hop
  go_enter Try.func14, Try.ntmps14
  go_wp2_with fail
  refine H.out.mono ?_
  rintro e w' ⟨rfl, b, rfl, hb⟩
  obtain rfl : b = true := hb.2 HR.out
  clear hb H HR
  go_wp2_with fail
  go_loop [17] (fun i => ∃ k : Nat, k ≤ zs.length ∧ i = .int .i64 k ∧ Hid (∀ j, j < k → ¬ Mov n zs j)) (fun i => zs.length - (intOf i).toNat)
  case atStart => exact ⟨0, Nat.zero_le _, rfl, fun j hj => by omega⟩
  case round =>
    obtain ⟨k, hk, rfl, hno⟩ := hrel
    by_cases hlt : k < zs.length
    · obtain ⟨b, off, rfl, hb, hc⟩ := HO.out k hlt
      have c1 := hc k hlt
      have hcc := hc
      obtain ⟨x0, x1⟩ := HX.out k hlt
      by_cases hl2 : k + 1 < zs.length
      · have c2 := hc (k + 1) hl2
        obtain ⟨y0, y1⟩ := HX.out (k + 1) hl2
        have hM : Mov n zs k ↔ zs.getD k 0 + 1 < zs.getD (k + 1) 0 := by unfold Mov; rw [if_pos hl2]
        have HM := Lib.hid hM; clear hM hc
        have hl2' : (k : Int) + 1 < (zs.length : Int) := by omega
        by_cases hmv : zs.getD k 0 + 1 < zs.getD (k + 1) 0
        · have HMV := Lib.hid (HM.out.2 hmv)
          clear HM
          obtain ⟨x, hx⟩ : ∃ x, zs.getD k 0 = x := ⟨_, rfl⟩
          rw [hx] at c1 x0 x1 hmv
          obtain ⟨y, hy⟩ : ∃ y, zs.getD (k + 1) 0 = y := ⟨_, rfl⟩
          rw [hy] at c2 y0 y1 hmv
          have HC : Hid (∀ i, i < zs.length → w.cell? ⟨b, off + i, none⟩ = some (.int .i64 (zs.getD i 0))) := hcc
          clear hcc
          have HX2 : Hid (zs.getD k 0 = x) := hx
          have HNO := Lib.hid hno.out
          clear hno
          clear hy
          clear hx
          go_wp2_with (at_builtin; go_must (refine wpList_append_own _ rfl _ _ 30 rfl w.heap.size 3 i0 (.int .i64 0) 1 8 Try.underlying30 hi hz0 hz1 hz2 rfl (by decide) _ 0 [] rfl ?hown ⟨b, off, none⟩ zs.length cap (zs.map (Value.int .i64)) rfl ?hl ?hnews ?h1 ?h63 ?hby ?hbs ?_))
          case hown => exact World.ownsRow_made (w := w) (base := w.heap.size) (e := 3) (size := 1) #[] 0 (Nat.le_refl _) (Nat.zero_le _) rfl
          case hnews =>
            intro j a ha
            have hj := (List.getElem?_eq_some_iff.1 ha).1
            rw [HC.out j hj]
            simp [List.getD_eq_getElem?_getD, ha]
          case h1 => intro a _; rfl
          case h63 => unfold maxLen; omega
          case hby => omega
          intro v' w1 hown hg _
          have hB : Below w.heap.size w w1 := ((Below.refl _ _).alloc (Nat.le_refl _) _).grown hg (by simp) (fun k hk => by simp [Value.ownBlock] at hk; omega)
          clear hg
          obtain ⟨g, cap', rfl, hlc', hcm', ho⟩ := OC.of (zs := zs) (by simpa using hown) (by omega)
          clear hown
          have lg := ho.lt.1
          have c0 : w1.cell? ⟨g, k, none⟩ = some (.int .i64 (zs.getD k 0)) := ho.get k hlt
          have cf := ho.frozen k
          rw [HX2.out] at c0
          have HO2 := Lib.hid (ho.set k (x + 1))
          have HB2 := Lib.hid (hB.setCell lg (p := ⟨g, k, none⟩) (.int .i64 (x + 1)))
          unfold maxLen at hcm'
          clear ho hB
          go_wp2_with fail
          go_loopw [47] (fun iv wi => ∃ j : Nat, j ≤ k ∧ iv = .int .i64 j ∧ OC wi w.heap.size g zs.length cap' (fun i => if i < j then (i : Int) else if i = k then x + 1 else zs.getD i 0) ∧ Below w.heap.size w wi) (fun iv _ => k - (intOf iv).toNat)
          case atStart => exact ⟨0, Nat.zero_le _, rfl, HO2.out.congr fun i hi => by rw [if_neg (Nat.not_lt_zero i)], HB2.out⟩
          case round =>
            clear HO2 HB2 c0 cf
            obtain ⟨j, hj, rfl, ho, hbel⟩ := hrel
            by_cases hjk : j < k
            · have c0 := ho.get j (by omega)
              have cf := ho.frozen j
              have HO3 := Lib.hid (ho.set j j)
              have HB3 := Lib.hid (hbel.setCell lg (p := ⟨g, j, none⟩) (.int .i64 (j : Int)))
              clear ho hbel
              go_wp2_with fail
              go_roundw
              case rel => exact ⟨j + 1, by omega, by go_num, HO3.out.congr fun i hi => by
                by_cases e : i = j
                · subst e; rw [if_pos rfl, if_pos (by omega)]
                · rw [if_neg e]
                  by_cases h : i < j
                  · rw [if_pos h, if_pos (show i < j + 1 by omega)]
                  · rw [if_neg h, if_neg (show ¬ i < j + 1 by omega)], HB3.out⟩
              case measure => simp [intOf]; omega
            · obtain rfl : j = k := by omega
              have HR2 : Hid (Rd wr (.slice (some ⟨g, 0, none⟩) zs.length cap') (tab zs.length (nxf (fun i => zs.getD i 0) j))) := (ho.congr (f' := nxf (fun i => zs.getD i 0) j) fun i hi => by
                unfold nxf
                by_cases h : i < j
                · rw [if_pos h, if_pos h]
                · rw [if_neg h, if_neg h]
                  by_cases e : i = j
                  · subst e; rw [if_pos rfl, if_pos rfl]; show x + 1 = zs.getD i 0 + 1; rw [HX2.out]
                  · rw [if_neg e, if_neg e]).rd
              have HB3 := Lib.hid hbel
              clear ho hbel
              go_wp2_with fail
              go_ret2
              exact ⟨HB3.out, .inl ⟨j, _, hlt, HNO.out, HMV.out, rfl, HR2.out⟩⟩
        · have HMV : Hid (¬ Mov n zs k) := fun h => hmv (HM.out.1 h)
          clear HM hcc
          generalize hx : zs.getD k 0 = x at *
          generalize hy : zs.getD (k + 1) 0 = y at *
          clear hx hy
          go_wp2_with fail
          go_round
          case rel => exact ⟨k + 1, by omega, by go_num, fun j hj => by
            rcases Nat.lt_or_ge j k with h | h
            · exact hno.out j h
            · obtain rfl : j = k := by omega
              exact HMV.out⟩
          case measure => simp [intOf]; omega
      · have hM : Mov n zs k ↔ zs.getD k 0 + 1 < (n : Int) := by unfold Mov; rw [if_neg hl2]
        have HM := Lib.hid hM; clear hM hc
        have hl2' : ¬ ((k : Int) + 1 < (zs.length : Int)) := by omega
        by_cases hmv : zs.getD k 0 + 1 < (n : Int)
        · have HMV := Lib.hid (HM.out.2 hmv)
          clear HM
          obtain ⟨x, hx⟩ : ∃ x, zs.getD k 0 = x := ⟨_, rfl⟩
          rw [hx] at c1 x0 x1 hmv
          have HC : Hid (∀ i, i < zs.length → w.cell? ⟨b, off + i, none⟩ = some (.int .i64 (zs.getD i 0))) := hcc
          clear hcc
          have HX2 : Hid (zs.getD k 0 = x) := hx
          have HNO := Lib.hid hno.out
          clear hno
          clear hx
          go_wp2_with (at_builtin; go_must (refine wpList_append_own _ rfl _ _ 30 rfl w.heap.size 3 i0 (.int .i64 0) 1 8 Try.underlying30 hi hz0 hz1 hz2 rfl (by decide) _ 0 [] rfl ?hownx ⟨b, off, none⟩ zs.length cap (zs.map (Value.int .i64)) rfl ?hlx ?hnewsx ?h1x ?h63x ?hbyx ?hbsx ?_))
          case hownx => exact World.ownsRow_made (w := w) (base := w.heap.size) (e := 3) (size := 1) #[] 0 (Nat.le_refl _) (Nat.zero_le _) rfl
          case hnewsx =>
            intro j a ha
            have hj := (List.getElem?_eq_some_iff.1 ha).1
            rw [HC.out j hj]
            simp [List.getD_eq_getElem?_getD, ha]
          case h1x => intro a _; rfl
          case h63x => unfold maxLen; omega
          case hbyx => omega
          intro v' w1 hown hg _
          have hB : Below w.heap.size w w1 := ((Below.refl _ _).alloc (Nat.le_refl _) _).grown hg (by simp) (fun k hk => by simp [Value.ownBlock] at hk; omega)
          clear hg
          obtain ⟨g, cap', rfl, hlc', hcm', ho⟩ := OC.of (zs := zs) (by simpa using hown) (by omega)
          clear hown
          have lg := ho.lt.1
          have c0 : w1.cell? ⟨g, k, none⟩ = some (.int .i64 (zs.getD k 0)) := ho.get k hlt
          have cf := ho.frozen k
          rw [HX2.out] at c0
          have HO2 := Lib.hid (ho.set k (x + 1))
          have HB2 := Lib.hid (hB.setCell lg (p := ⟨g, k, none⟩) (.int .i64 (x + 1)))
          unfold maxLen at hcm'
          clear ho hB
          go_wp2_with fail
          go_loopw [47] (fun iv wi => ∃ j : Nat, j ≤ k ∧ iv = .int .i64 j ∧ OC wi w.heap.size g zs.length cap' (fun i => if i < j then (i : Int) else if i = k then x + 1 else zs.getD i 0) ∧ Below w.heap.size w wi) (fun iv _ => k - (intOf iv).toNat)
          case atStart => exact ⟨0, Nat.zero_le _, rfl, HO2.out.congr fun i hi => by rw [if_neg (Nat.not_lt_zero i)], HB2.out⟩
          case round =>
            clear HO2 HB2 c0 cf
            obtain ⟨j, hj, rfl, ho, hbel⟩ := hrel
            by_cases hjk : j < k
            · have c0 := ho.get j (by omega)
              have cf := ho.frozen j
              have HO3 := Lib.hid (ho.set j j)
              have HB3 := Lib.hid (hbel.setCell lg (p := ⟨g, j, none⟩) (.int .i64 (j : Int)))
              clear ho hbel
              go_wp2_with fail
              go_roundw
              case rel => exact ⟨j + 1, by omega, by go_num, HO3.out.congr fun i hi => by
                by_cases e : i = j
                · subst e; rw [if_pos rfl, if_pos (by omega)]
                · rw [if_neg e]
                  by_cases h : i < j
                  · rw [if_pos h, if_pos (show i < j + 1 by omega)]
                  · rw [if_neg h, if_neg (show ¬ i < j + 1 by omega)], HB3.out⟩
              case measure => simp [intOf]; omega
            · obtain rfl : j = k := by omega
              have HR2 : Hid (Rd wr (.slice (some ⟨g, 0, none⟩) zs.length cap') (tab zs.length (nxf (fun i => zs.getD i 0) j))) := (ho.congr (f' := nxf (fun i => zs.getD i 0) j) fun i hi => by
                unfold nxf
                by_cases h : i < j
                · rw [if_pos h, if_pos h]
                · rw [if_neg h, if_neg h]
                  by_cases e : i = j
                  · subst e; rw [if_pos rfl, if_pos rfl]; show x + 1 = zs.getD i 0 + 1; rw [HX2.out]
                  · rw [if_neg e, if_neg e]).rd
              have HB3 := Lib.hid hbel
              clear ho hbel
              go_wp2_with fail
              go_ret2
              exact ⟨HB3.out, .inl ⟨j, _, hlt, HNO.out, HMV.out, rfl, HR2.out⟩⟩
        · have HMV : Hid (¬ Mov n zs k) := fun h => hmv (HM.out.1 h)
          clear HM hcc
          generalize hx : zs.getD k 0 = x at *
          clear hx
          go_wp2_with fail
          go_round
          case rel => exact ⟨k + 1, by omega, by go_num, fun j hj => by
            rcases Nat.lt_or_ge j k with h | h
            · exact hno.out j h
            · obtain rfl : j = k := by omega
              exact HMV.out⟩
          case measure => simp [intOf]; omega
    · obtain rfl : k = zs.length := by omega
      go_wp2_with fail
      go_ret2
      exact ⟨Below.refl _ _, .inr ⟨hno.out, rfl⟩⟩
end Go.Proofs.Ytmiejokgjbnciaa
