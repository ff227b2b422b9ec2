/- The walk of CyclesTimes. No condition. -/
import Derived.Test.YthnalgkojoeniaaSome
import Derived.Test.YthnalgkojoeniaaCyclesOddW
import Derived.Deep.LoopGhost
set_option linter.unusedSimpArgs false
set_option linter.unusedVariables false
namespace Go.Proofs.Ythnalgkojoeniaa
open Go.RowKit
/-- A block of one cell. -/
def C1 (w : World) (b : Nat) (v : Value) (t : TypeId) : Prop := w.heap[b]? = some (.cells #[v] t (0, 0))
theorem C1.lt {w : World} {b : Nat} {v : Value} {t : TypeId} (h : C1 w b v t) : b < w.heap.size := lt_of_block h
theorem C1.cell {w : World} {b : Nat} {v : Value} {t : TypeId} (h : C1 w b v t) : w.cell? ⟨b, 0, none⟩ = some v := cell_of_one h
theorem C1.free {w : World} {b : Nat} {v : Value} {t : TypeId} (h : C1 w b v t) : w.frozen? ⟨b, 0, none⟩ = false := free_of_one h
theorem C1.set {w : World} {b : Nat} {v : Value} {t : TypeId} (h : C1 w b v t) (u : Value) : C1 (w.setCell ⟨b, 0, none⟩ u) b u t := by
  have := heap_at_setCell (j := 0) (u := u) h
  simpa [C1] using this
theorem C1.new (w : World) (v : Value) (t : TypeId) : C1 (w.alloc (.cells #[v] t)) w.heap.size v t := heap_alloc_new w _
theorem times_tab (v : Value) (n : Nat) (f : Nat → Nat) (w : World) (h : Rd w v (tabI n f)) (hn : n ≤ 20) (hf : Pm f n) :
    Calls Try.prog 12 #[v] w fun e w' => Below w.heap.size w w' ∧ e = .returned (.tuple #[.int .i64 (tms f n : Nat), .int .i64 0]) := by
  refine (times_ok v _ w h (okp_of hn hf)).mono ?_
  rintro e w' ⟨hb, rfl⟩
  rw [tabI_len, tms, lens, cyc_congr (f := nd (tabI n f)) (g := f) (hf.congr fun x hx => (nd_tab_lt x hx).symm) fun x hx => nd_tab_lt x hx]
  exact ⟨hb, rfl⟩
theorem inv_pm {n : Nat} {f : Nat → Nat} (h : Pm f n) : Pm (inv f n) n ∧ ∀ x, x < n → inv f n (f x) = x := by
  have e : ∀ x, x < n → inv f n (f x) = x := fun x hx => inv_at (fun i j hi hj e => h.2 i j hi hj e) hx
  have onto : ∀ y, y < n → ∃ x, x < n ∧ f x = y := fun y hy => by
    obtain ⟨h1, h2, h3, h4⟩ := h.per hy
    refine ⟨it f (per f n y - 1) y, h.lt _ _ hy, ?_⟩
    rw [← it_succ f, show per f n y - 1 + 1 = per f n y by omega, h1]
  refine ⟨⟨fun x hx => inv_lt (by omega), fun x y hx hy he => ?_⟩, e⟩
  obtain ⟨a, ha, rfl⟩ := onto x hx
  obtain ⟨b, hb, rfl⟩ := onto y hy
  rw [e a ha, e b hb] at he
  rw [he]
theorem back_tab (v : Value) (n : Nat) (f : Nat → Nat) (w : World) (h : Rd w v (tabI n f)) (hn : n ≤ 20) (hf : Pm f n) :
    Calls Try.prog 13 #[v] w fun e w' => Below w.heap.size w w' ∧ ∃ u, e = .returned (.tuple #[u, .int .i64 0]) ∧ Rd w' u (tabI n (inv f n)) := by
  refine (back_ok v _ w h (okp_of hn hf)).mono ?_
  rintro e w' ⟨hb, u, rfl, hu⟩
  refine ⟨hb, u, rfl, ?_⟩
  rw [tabI_len] at hu
  have : ∀ m, m ≤ n → ∀ x, inv (nd (tabI n f)) m x = inv f m x := by
    intro m hm x
    induction m with
    | zero => rfl
    | succ m ih => rw [inv, inv, nd_tab_lt _ (by omega), ih (by omega)]
  rwa [tabI_congr (g := inv f n) fun x _ => this n (Nat.le_refl _) x] at hu
end Go.Proofs.Ythnalgkojoeniaa
namespace Go.Proofs.Ythnalgkojoeniaa.cyclesTimes
open Go.RowKit Go.Proofs.Ythnalgkojoeniaa
theorem walk_bad (v : Value) (zs : List Int) (w : World) (h : Rd w v zs) (hno : ¬ OkP zs) :
    Calls Try.prog 4 #[v] w fun e w' => e = .returned (.bool true) ∧ Below w.heap.size w w' := by
  have HR := Lib.hid h
  have HT := Lib.hid (fun w v (h : Rd w v zs) => times_bad v zs w h hno)
  clear h hno
  go_enter Try.func4, Try.ntmps4
  go_wp2_with fail
  refine (alive_any _).mono ?_
  rintro e w1 ⟨rfl, hb1⟩
  have HB1 := Lib.hid hb1
  have HA1 := Lib.hid (HR.out.below hb1 (Nat.le_refl _))
  clear hb1 HR
  go_wp2_with fail
  refine (HT.out _ _ HA1.out).mono ?_
  rintro e w2 ⟨hb2, rfl⟩
  have HB2 := Lib.hid (HB1.out.trans (hb2.mono HB1.out.size))
  clear hb2 HA1 HT
  go_wp2_with fail
  go_ret
  exact ⟨rfl, HB2.out⟩
set_option maxRecDepth 20000 in
set_option maxHeartbeats 3200000 in
theorem walk_ok (v : Value) (n : Nat) (f : Nat → Nat) (w : World) (h : Rd w v (tabI n f)) (hn : n ≤ 20) (hf : Pm f n) :
    Calls Try.prog 4 #[v] w fun e w' => e = .returned (.bool true) ∧ Below w.heap.size w w' := by
  have HR := Lib.hid h
  have HPF := Lib.hid hf
  have HTB := Lib.hid (tms_back hf (inv_pm hf).1 (inv_pm hf).2)
  have hT := hf.tms_bd hn
  have HOF : Hid (∀ w v, Rd w v (tabI n f) → Calls Try.prog 11 #[v] w fun e w' => Below w.heap.size w w' ∧ ∃ u, e = .returned (.tuple #[u, .int .i64 0]) ∧ OM w' w.heap.size u (rows (cyc f n n))) := fun w v h => by
    refine (of_ok v _ w h (okp_of hn hf)).mono ?_
    rintro e w' ⟨hb, u, rfl, ho⟩
    rw [tabI_len, cyc_congr (f := nd (tabI n f)) (g := f) (hf.congr fun x hx => (nd_tab_lt x hx).symm) fun x hx => nd_tab_lt x hx] at ho
    exact ⟨hb, u, rfl, ho⟩
  have HROW : Hid (∀ j, j < (rows (cyc f n n)).length → 1 ≤ ((rows (cyc f n n)).getD j []).length ∧ ((rows (cyc f n n)).getD j []).length ≤ 20 ∧ ((rows (cyc f n n)).getD j []).length ∣ tms f n) := fun j hj => by
    rw [rows_len] at hj
    have e : (rows (cyc f n n)).getD j [] = ints ((cyc f n n).getD j []) := by simp [rows, List.getD_eq_getElem?_getD, List.getElem?_eq_getElem hj]
    have e2 : ((rows (cyc f n n)).getD j []).length = ((cyc f n n).getD j []).length := by rw [e]; simp [ints]
    rw [e2]
    have hm : ((cyc f n n).getD j []).length ∈ lens f n n := by
      refine List.mem_map.2 ⟨_, ?_, rfl⟩
      rw [List.getD_eq_getElem?_getD, List.getElem?_eq_getElem hj]; exact List.getElem_mem hj
    have hb := hf.lens_mem hm
    exact ⟨hb.1, by omega, Pm.tms_row hm⟩
  have HSOME : Hid (∀ d, 1 ≤ d → d < tms f n → ∃ k, k < (rows (cyc f n n)).length ∧ ¬ ((rows (cyc f n n)).getD k []).length ∣ d) := fun d h1 h2 => by
    obtain ⟨x, hx, hno⟩ := hf.tms_least h1 h2
    obtain ⟨r, hr, rfl⟩ := List.mem_map.1 hx
    obtain ⟨k, hk, e⟩ := List.getElem_of_mem hr
    refine ⟨k, by rw [rows_len]; exact hk, ?_⟩
    have e2 : ((rows (cyc f n n)).getD k []).length = r.length := by
      simp [rows, List.getD_eq_getElem?_getD, List.getElem?_eq_getElem hk, ints, e]
    rw [e2]
    exact hno
  have HLEN : Hid ((rows (cyc f n n)).length ≤ 20) := by
    show _ ≤ _
    rw [rows_len]
    have := cyc_len_le f n n
    omega
  have HT1 := Lib.hid (fun w v (h : Rd w v (tabI n f)) => times_tab v n f w h hn hf)
  have HT2 := Lib.hid (fun w v (h : Rd w v (tabI n (inv f n))) => times_tab v n _ w h hn (inv_pm hf).1)
  have HBK := Lib.hid (fun w v (h : Rd w v (tabI n f)) => back_tab v n f w h hn hf)
  rw [HTB.out] at HT2
  generalize rows (cyc f n n) = zss at *
  generalize tms f n = T at *
  generalize tabI n (inv f n) = us at *
  generalize tabI n f = zs at *
  clear h hf HTB
  go_enter Try.func4, Try.ntmps4
  go_wp2_with fail
  refine (alive_any _).mono ?_
  rintro e w1 ⟨rfl, hb1⟩
  have HB1 := Lib.hid hb1
  have HA1 := Lib.hid (HR.out.below hb1 (Nat.le_refl _))
  clear hb1 HR
  go_wp2_with fail
  refine (HT1.out _ _ HA1.out).mono ?_
  rintro e w2 ⟨hb2, rfl⟩
  have HB2 := Lib.hid (HB1.out.trans (hb2.mono HB1.out.size))
  have HA2 := Lib.hid (HA1.out.below hb2 (Nat.le_refl _))
  clear hb2 HA1 HT1
  go_wp2_with fail
  refine (HOF.out _ _ HA2.out).mono ?_
  rintro e w3 ⟨hb3, u, rfl, hom⟩
  have HB3 := Lib.hid (HB2.out.trans (hb3.mono HB2.out.size))
  have HA3 := Lib.hid (HA2.out.below hb3 (Nat.le_refl _))
  have HOM := Lib.hid hom.rd
  clear hb3 HA2 HOF hom
  go_wp2_with fail
  refine (HBK.out _ _ HA3.out).mono ?_
  rintro e w4 ⟨hb4, uu, rfl, hu⟩
  have HB4 := Lib.hid (HB3.out.trans (hb4.mono HB3.out.size))
  have HOM4 := Lib.hid (HOM.out.below hb4 (Nat.le_refl _))
  have HU := Lib.hid hu
  clear hb4 HA3 HBK HOM hu
  go_wp2_with fail
  refine (HT2.out _ _ HU.out).mono ?_
  rintro e w5 ⟨hb5, rfl⟩
  have HB5 := Lib.hid (HB4.out.trans (hb5.mono HB4.out.size))
  have HOM5 := Lib.hid (HOM4.out.below hb5 (Nat.le_refl _))
  obtain ⟨ua, uc, rfl, hlc, hcm, hop⟩ := HOM5.out.open
  have HOP := Lib.hid hop
  have hT1 : decide ((T : Int) < 1) = false := decide_eq_false (by omega)
  obtain ⟨m, hm⟩ : ∃ m, zss.length = m := ⟨_, rfl⟩
  rw [hm] at hlc HOP HROW HSOME ⊢
  rw [hm] at HLEN
  have hm20 := HLEN.out
  have HM := Lib.hid hm
  clear hb5 HU HT2 HOM4 hop hm
  go_wp2_with fail
  go_loopw [61, 12] (fun iv _ wr => ∃ i : Nat, i ≤ m ∧ iv = .int .i64 i ∧ w5 = wr) (fun iv _ _ => m - (intOf iv).toNat)
  case atStart => exact ⟨0, Nat.zero_le _, rfl, rfl⟩
  case round =>
    obtain ⟨i, hi, rfl, rfl⟩ := hrel
    by_cases hlt : i < m
    · obtain ⟨b, off, U, rfl, hb, hc⟩ := HOP.out (by omega)
      obtain ⟨cx, hrd⟩ := hc i hlt
      obtain ⟨r1, r2, r3⟩ := HROW.out i hlt
      obtain ⟨ra, rc, hUi, -, -, -⟩ := hrd.open
      rw [hUi] at cx
      obtain ⟨L, hL⟩ : ∃ L, (zss.getD i []).length = L := ⟨_, rfl⟩
      rw [hL] at cx r1 r2 r3
      have hmm : ((T : Int) % (L : Int)) = 0 := by
        have : ((T % L : Nat) : Int) = 0 := by rw [Nat.mod_eq_zero_of_dvd r3]; rfl
        exact this
      have hlne : ((L : Int) == 0) = false := by simp; omega
      clear hc hrd hUi hL r3
      go_wp2_with fail
      exact ⟨⟨i + 1, by omega, by go_num, by first | rfl | trivial⟩, by simp [intOf]; omega⟩
    · obtain rfl : i = m := by omega
      go_wp2_with fail
      obtain ⟨W, hW⟩ : ∃ W, W = w5 := ⟨_, rfl⟩
      subst hW
      have HN := Lib.hid (C1.new W (.int .i64 1) 3)
      have HBN := Lib.hid ((Below.refl W.heap.size W).alloc (Nat.le_refl _) (.cells #[.int .i64 1] 3))
      go_loopg [13, 86] (T - 1) (fun m pv _ wr => ∃ d B : Nat, m + d = T ∧ 1 ≤ d ∧ pv = .pointer (some ⟨B, 0, none⟩) ∧ Below W.heap.size W wr ∧ W.heap.size ≤ B ∧ C1 wr B (.int .i64 d) 3)
      case atStart => exact ⟨1, W.heap.size, by omega, Nat.le_refl _, rfl, HBN.out, Nat.le_refl _, HN.out⟩
      case round =>
        clear HN HBN
        obtain ⟨d, B, hmd, hd1, rfl, hbel, hWB, hc1⟩ := hrel
        have cB := hc1.cell
        have fB := hc1.free
        by_cases hlt : d < T
        · have hRM := HOM5.out.below hbel (Nat.le_refl _)
          have HN := Lib.hid (C1.new wr (.int .i64 ((d : Int) + 1)) 3)
          have HBN := Lib.hid (hbel.alloc hbel.size (.cells #[.int .i64 ((d : Int) + 1)] 3))
          have HSZ := Lib.hid hbel.size
          have hmm : ((T : Int) % (d : Int)) = ((T % d : Nat) : Int) := rfl
          have hdne : ((d : Int) == 0) = false := by simp; omega
          by_cases hdv : T % d = 0
          · obtain ⟨k, hk, hno⟩ := HSOME.out d hd1 hlt
            have HCF := Lib.hid (some_div _ zss B d k wr hRM cB (by omega) (fun j hj => by obtain ⟨q1, q2, -⟩ := HROW.out j (by rw [HM.out] at hj; exact hj); exact ⟨q1, by omega⟩) (by rw [HM.out]; exact hk) hno)
            rw [HM.out] at HCF
            have h00 : ((T % d : Nat) : Int) = 0 := by rw [hdv]; rfl
            rw [h00] at hmm
            clear hno hk hdv h00 hRM hc1
            go_wp2_with fail
            refine HCF.out.mono ?_
            rintro e w6 ⟨rfl, rfl⟩
            go_wp2_with fail
            go_roundg (T - (d + 1))
            case measure => omega
            case rel => exact ⟨d + 1, w6.heap.size, by omega, by omega, rfl, HBN.out, HSZ.out, HN.out⟩
          · have hne : ((T % d : Nat) : Int) ≠ 0 := by omega
            generalize T % d = q at *
            have hq : ((q : Int) == 0) = false := by simpa using hne
            have hq2 : ((q : Int) = 0) = False := eq_false hne
            clear hne hdv hRM hc1
            go_wp2_with fail
            go_roundg (T - (d + 1))
            case measure => omega
            case rel => exact ⟨d + 1, wr.heap.size, by omega, by omega, rfl, HBN.out, HSZ.out, HN.out⟩
        · obtain rfl : d = T := by omega
          have HBE := Lib.hid (HB5.out.trans (hbel.mono HB5.out.size))
          clear hbel hc1
          go_wp2_with fail
          go_ret
          exact ⟨rfl, HBE.out⟩
theorem walk_any (v : Value) (zs : List Int) (w : World) (h : Rd w v zs) : Calls Try.prog 4 #[v] w fun e w' => e = .returned (.bool true) ∧ Below w.heap.size w w' := by
  by_cases k1 : OkP zs
  · rw [k1.tab] at h
    exact walk_ok v zs.length _ w h k1.1 k1.pm
  · exact walk_bad v zs w h k1
theorem walk (a : Option Addr) (len cap : Nat) (z : List Int) (w : World) (h : IsRow .i64 w a len cap z) :
    Calls Try.prog 4 #[.slice a len cap] w fun e w' => e = .returned (.bool true) ∧ Below w.heap.size w w' := walk_any _ _ w h.rd.1
end Go.Proofs.Ythnalgkojoeniaa.cyclesTimes
