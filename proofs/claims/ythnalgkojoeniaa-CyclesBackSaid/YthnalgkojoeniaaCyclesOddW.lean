/- The walk of CyclesOdd. No condition but that the list fits. -/
import Derived.Test.YthnalgkojoeniaaAl
import Derived.Test.YthnalgkojoeniaaClone
set_option linter.unusedSimpArgs false
set_option linter.unusedVariables false
namespace Go.Proofs.Ythnalgkojoeniaa
open Go.RowKit
theorem okp_then {zs ys : List Int} (h : OkP zs) (h2 : OkP ys) (hl : zs.length = ys.length) : OkP (tabI zs.length fun k => nd ys (nd zs k)) :=
  OkP.mk' h.1 (fun i hi => by have := h2.lt (i := nd zs i) (by have := h.lt hi; omega); omega) fun i j hi hj e =>
    h.inj hi hj (h2.inj (by have := h.lt hi; omega) (by have := h.lt hj; omega) e)
theorem okp_of {n : Nat} {f : Nat → Nat} (hn : n ≤ 20) (h : Pm f n) : OkP (tabI n f) := OkP.mk' hn h.1 fun i j hi hj e => h.2 i j hi hj e
theorem nd_tab_lt {n : Nat} {f : Nat → Nat} (x : Nat) (hx : x < n) : nd (tabI n f) x = f x := by rw [nd_tabI, if_pos hx]
theorem odd_tab (v : Value) (n : Nat) (f : Nat → Nat) (w : World) (h : Rd w v (tabI n f)) (hn : n ≤ 20) (hf : Pm f n) :
    Calls Try.prog 8 #[v] w fun e w' => Below w.heap.size w w' ∧ e = .returned (.tuple #[.bool (par f n), .int .i64 0]) := by
  refine (odd_ok v _ w h (okp_of hn hf)).mono ?_
  rintro e w' ⟨hb, rfl⟩
  rw [tabI_len, par_congr (f := nd (tabI n f)) (g := f) (hf.congr fun x hx => (nd_tab_lt x hx).symm) fun x hx => nd_tab_lt x hx]
  exact ⟨hb, rfl⟩
/-- How many rounds. -/
def cnt (f : Nat → Nat) (n : Nat) : Nat := (lows f n n).length
theorem of_cnt (v : Value) (n : Nat) (f : Nat → Nat) (w : World) (h : Rd w v (tabI n f)) (hn : n ≤ 20) (hf : Pm f n) :
    Calls Try.prog 11 #[v] w fun e w' => Below w.heap.size w w' ∧ ∃ a c, e = .returned (.tuple #[.slice a (cnt f n) c, .int .i64 0]) := by
  refine (of_ok v _ w h (okp_of hn hf)).mono ?_
  rintro e w' ⟨hb, u, rfl, ho⟩
  obtain ⟨a, c, rfl⟩ := ho.shape
  refine ⟨hb, a, c, ?_⟩
  rw [rows_len, tabI_len, cyc, List.length_map, ← lows_congr hf (fun x hx => (nd_tab_lt x hx).symm)]
  rfl
theorem then_tab (v v2 : Value) (n : Nat) (f g : Nat → Nat) (w : World) (h : Rd w v (tabI n f)) (h2 : Rd w v2 (tabI n g)) (hn : n ≤ 20) (hf : Pm f n) (hg : Pm g n) :
    Calls Try.prog 9 #[v, v2] w fun e w' => Below w.heap.size w w' ∧ ∃ u, e = .returned (.tuple #[u, .int .i64 0]) ∧ Rd w' u (tabI n (fun k => g (f k))) := by
  refine (then_ok v v2 _ _ w h h2 (okp_of hn hf) (okp_of hn hg) (by rw [tabI_len, tabI_len])).mono ?_
  rintro e w' ⟨hb, u, rfl, hu⟩
  refine ⟨hb, u, rfl, ?_⟩
  rw [tabI_len] at hu
  rwa [tabI_congr (g := fun k => g (f k)) fun x hx => by rw [nd_tab_lt x hx, nd_tab_lt _ (hf.1 x hx)]] at hu
end Go.Proofs.Ythnalgkojoeniaa
namespace Go.Proofs.Ythnalgkojoeniaa.cyclesOdd
open Go.RowKit Go.Proofs.Ythnalgkojoeniaa
set_option maxRecDepth 20000 in
set_option maxHeartbeats 3200000 in
theorem walk_bad (v v2 : Value) (zs ys : List Int) (i j : Int) (w : World) (h : Rd w v zs) (h2 : Rd w v2 ys) (hno : ¬ (OkP zs ∧ OkP ys ∧ zs.length = ys.length)) :
    Calls Try.prog 3 #[v, v2, .int .i64 i, .int .i64 j] w fun e w' => e = .returned (.bool true) ∧ Below w.heap.size w w' := by
  have HR := Lib.hid h
  have HR2 := Lib.hid h2
  have HO1 : Hid (∀ w v, Rd w v zs → Calls Try.prog 8 #[v] w fun e w' => Below w.heap.size w w' ∧ ∃ b, e = .returned (.tuple #[.bool b, .int .i64 (if OkP zs then 0 else 1)])) := fun w v h => by
    by_cases k : OkP zs
    · refine (odd_ok v _ w h k).mono ?_
      rintro e w' ⟨hb, rfl⟩
      exact ⟨hb, _, by rw [if_pos k]⟩
    · refine (odd_bad v _ w h k).mono ?_
      rintro e w' ⟨hb, rfl⟩
      exact ⟨hb, _, by rw [if_neg k]⟩
  have HO2 : Hid (∀ w v, Rd w v ys → Calls Try.prog 8 #[v] w fun e w' => Below w.heap.size w w' ∧ ∃ b, e = .returned (.tuple #[.bool b, .int .i64 (if OkP ys then 0 else 1)])) := fun w v h => by
    by_cases k : OkP ys
    · refine (odd_ok v _ w h k).mono ?_
      rintro e w' ⟨hb, rfl⟩
      exact ⟨hb, _, by rw [if_pos k]⟩
    · refine (odd_bad v _ w h k).mono ?_
      rintro e w' ⟨hb, rfl⟩
      exact ⟨hb, _, by rw [if_neg k]⟩
  have HT := Lib.hid (fun w v v2 (h : Rd w v zs) (h2 : Rd w v2 ys) => then_bad v v2 zs ys w h h2 hno)
  clear h h2 hno
  go_enter Try.func3, Try.ntmps3
  go_wp2_with fail
  refine (alive_any _).mono ?_
  rintro e w1 ⟨rfl, hb1⟩
  have HB1 := Lib.hid hb1
  have HA1 := Lib.hid (HR.out.below hb1 (Nat.le_refl _))
  have HA2 := Lib.hid (HR2.out.below hb1 (Nat.le_refl _))
  clear hb1 HR HR2
  go_wp2_with fail
  refine (HO1.out _ _ HA1.out).mono ?_
  rintro e w2 ⟨hb2, b1, rfl⟩
  have HB2 := Lib.hid (HB1.out.trans (hb2.mono HB1.out.size))
  have HC1 := Lib.hid (HA1.out.below hb2 (Nat.le_refl _))
  have HC2 := Lib.hid (HA2.out.below hb2 (Nat.le_refl _))
  clear hb2 HA1 HA2 HO1
  generalize (if OkP zs then (0 : Int) else 1) = E1 at *
  go_wp2_with fail
  refine (HO2.out _ _ HC2.out).mono ?_
  rintro e w3 ⟨hb3, b2, rfl⟩
  have HB3 := Lib.hid (HB2.out.trans (hb3.mono HB2.out.size))
  have HD1 := Lib.hid (HC1.out.below hb3 (Nat.le_refl _))
  have HD2 := Lib.hid (HC2.out.below hb3 (Nat.le_refl _))
  clear hb3 HC1 HC2 HO2
  generalize (if OkP ys then (0 : Int) else 1) = E2 at *
  go_wp2_with fail
  refine (HT.out _ _ _ HD1.out HD2.out).mono ?_
  rintro e w4 ⟨hb4, rfl⟩
  have HB4 := Lib.hid (HB3.out.trans (hb4.mono HB3.out.size))
  clear hb4 HD1 HD2 HT
  by_cases e1 : E1 = 0
  · subst e1
    by_cases e2 : E2 = 0
    · subst e2
      go_wp2_with fail
      go_ret
      exact ⟨rfl, HB4.out⟩
    · have f2 : (E2 == 0) = false := by simpa using e2
      have f2' : (E2 = 0) = False := eq_false e2
      go_wp2_with fail
      go_ret
      exact ⟨rfl, HB4.out⟩
  · have f1 : (E1 == 0) = false := by simpa using e1
    have f1' : (E1 = 0) = False := eq_false e1
    go_wp2_with fail
    go_ret
    exact ⟨rfl, HB4.out⟩
set_option maxRecDepth 20000 in
set_option maxHeartbeats 3200000 in
theorem walk_ok (v v2 : Value) (n : Nat) (f g : Nat → Nat) (i j : Int) (w : World) (h : Rd w v (tabI n f)) (h2 : Rd w v2 (tabI n g)) (hn : n ≤ 20) (hf : Pm f n) (hg : Pm g n) :
    Calls Try.prog 3 #[v, v2, .int .i64 i, .int .i64 j] w fun e w' => e = .returned (.bool true) ∧ Below w.heap.size w w' := by
  have HR := Lib.hid h
  have HR2 := Lib.hid h2
  have HPF := Lib.hid hf
  have HPG := Lib.hid hg
  obtain ⟨a, cap, rfl, hlc, hcm, -⟩ := h.open
  have HPAR := Lib.hid (par_then hg n f hf (fun x h1 h2 => by omega))
  rw [tabI_len] at hlc HR ⊢
  clear h h2 hf hg
  go_enter Try.func3, Try.ntmps3
  go_wp2_with fail
  refine (alive_any _).mono ?_
  rintro e w1 ⟨rfl, hb1⟩
  have HB1 := Lib.hid hb1
  have HA1 := Lib.hid (HR.out.below hb1 (Nat.le_refl _))
  have HA2 := Lib.hid (HR2.out.below hb1 (Nat.le_refl _))
  clear hb1 HR HR2
  go_wp2_with fail
  refine (odd_tab _ n f _ HA1.out hn HPF.out).mono ?_
  rintro e w2 ⟨hb2, rfl⟩
  have HB2 := Lib.hid (HB1.out.trans (hb2.mono HB1.out.size))
  have HC1 := Lib.hid (HA1.out.below hb2 (Nat.le_refl _))
  have HC2 := Lib.hid (HA2.out.below hb2 (Nat.le_refl _))
  obtain ⟨p1, hp1⟩ : ∃ p1, par f n = p1 := ⟨_, rfl⟩
  have HP1 := Lib.hid hp1
  rw [hp1] at HPAR ⊢
  clear hb2 HA1 HA2 hp1
  go_wp2_with fail
  refine (odd_tab _ n g _ HC2.out hn HPG.out).mono ?_
  rintro e w3 ⟨hb3, rfl⟩
  have HB3 := Lib.hid (HB2.out.trans (hb3.mono HB2.out.size))
  have HD1 := Lib.hid (HC1.out.below hb3 (Nat.le_refl _))
  have HD2 := Lib.hid (HC2.out.below hb3 (Nat.le_refl _))
  obtain ⟨p2, hp2⟩ : ∃ p2, par g n = p2 := ⟨_, rfl⟩
  rw [hp2] at HPAR ⊢
  clear hb3 HC1 HC2 hp2
  go_wp2_with fail
  refine (then_tab _ _ n f g _ HD1.out HD2.out hn HPF.out HPG.out).mono ?_
  rintro e w4 ⟨hb4, ut, rfl, hut⟩
  have HB4 := Lib.hid (HB3.out.trans (hb4.mono HB3.out.size))
  have HE1 := Lib.hid (HD1.out.below hb4 (Nat.le_refl _))
  have HUT := Lib.hid hut
  clear hb4 HD1 HD2 hut
  go_wp2_with fail
  refine (odd_tab _ n _ _ HUT.out hn (HPF.out.comp HPG.out)).mono ?_
  rintro e w5 ⟨hb5, rfl⟩
  obtain ⟨p3, hp3⟩ : ∃ p3, (!(p1 == p2)) = p3 := ⟨_, rfl⟩
  rw [HPAR.out, show (p1 != p2) = !(p1 == p2) from rfl, hp3]
  have HB5 := Lib.hid (HB4.out.trans (hb5.mono HB4.out.size))
  have HF1 := Lib.hid (HE1.out.below hb5 (Nat.le_refl _))
  clear hb5 HE1 HUT HPAR
  by_cases c1 : i < 0
  · have f1 : decide (i < 0) = true := decide_eq_true c1
    go_wp2_with fail
    go_ret
    exact ⟨rfl, HB5.out⟩
  have f1 : decide (i < 0) = false := decide_eq_false c1
  by_cases c2 : j < 0
  · have f2 : decide (j < 0) = true := decide_eq_true c2
    go_wp2_with fail
    go_ret
    exact ⟨rfl, HB5.out⟩
  have f2 : decide (j < 0) = false := decide_eq_false c2
  by_cases c3 : (n : Int) ≤ i
  · have f3 : decide ((n : Int) ≤ i) = true := decide_eq_true c3
    go_wp2_with fail
    go_ret
    exact ⟨rfl, HB5.out⟩
  have f3 : decide ((n : Int) ≤ i) = false := decide_eq_false c3
  by_cases c4 : (n : Int) ≤ j
  · have f4 : decide ((n : Int) ≤ j) = true := decide_eq_true c4
    go_wp2_with fail
    go_ret
    exact ⟨rfl, HB5.out⟩
  have f4 : decide ((n : Int) ≤ j) = false := decide_eq_false c4
  by_cases c5 : i = j
  · subst c5
    go_wp2_with fail
    go_ret
    exact ⟨rfl, HB5.out⟩
  obtain ⟨p, rfl⟩ : ∃ p : Nat, i = p := ⟨i.toNat, by omega⟩
  obtain ⟨q, rfl⟩ : ∃ q : Nat, j = q := ⟨j.toNat, by omega⟩
  have hp : p < n := by omega
  have hq : q < n := by omega
  have hpq : p ≠ q := fun e => c5 (by rw [e])
  have f5 : ((p : Int) == (q : Int)) = false := by simp; omega
  have f6 : ((p : Int) = (q : Int)) = False := eq_false c5
  have g1 : decide (n ≤ p) = false := decide_eq_false (by omega)
  have g2 : decide (n ≤ q) = false := decide_eq_false (by omega)
  have g3 : (p = q) = False := eq_false hpq
  clear c1 c2 c3 c4 c5
  go_wp2_with fail
  refine (clone_any _ _ _ HF1.out (by rw [tabI_len]; omega)).mono ?_
  rintro e w6 ⟨vq, rfl, hoc, hb6⟩
  rw [tabI_len] at hoc
  obtain ⟨b, cg, rfl, h9, h91, h92, h93, -⟩ := own_open hoc (by omega)
  have hoc : OC w6 w5.heap.size b n cg f := hoc
  have HG1 := Lib.hid (HF1.out.below hb6 (Nat.le_refl _))
  have cp := hoc.get p hp
  have cq := hoc.get q hq
  have fp := hoc.frozen p
  have fq := hoc.frozen q
  have HST : Hid (OC ((w6.setCell ⟨b, p, none⟩ (.int .i64 (f q : Nat))).setCell ⟨b, q, none⟩ (.int .i64 (f p : Nat))) w5.heap.size b n cg (sw f p q)) := ((hoc.set p (f q)).set q (f p)).congr fun k _ => by
    unfold sw
    by_cases e1 : k = q
    · rw [if_pos e1, if_neg (by omega), if_pos e1]
    · rw [if_neg e1]
      by_cases e2 : k = p
      · rw [if_pos e2, if_pos e2]
      · rw [if_neg e2, if_neg e2, if_neg e1]
  have hB : w.heap.size ≤ b := Nat.le_trans HB5.out.size h92
  have HBS := Lib.hid (((hb6.setCell (show w5.heap.size ≤ (⟨b, p, none⟩ : Addr).block from h92) (.int .i64 (f q : Nat))).setCell (show w5.heap.size ≤ (⟨b, q, none⟩ : Addr).block from h92) (.int .i64 (f p : Nat))).drew)
  have HGAP := Lib.hid (gap HPF.out hp hq hpq)
  have HPS := Lib.hid (HPF.out.sw hp hq)
  have HPP := Lib.hid (par_sw HPF.out hp hq hpq)
  rw [HP1.out] at HPP
  have hl1 := lows_le f n
  have hl2 := lows_le (sw f p q) n
  generalize hy : f q = y at *
  generalize hx : f p = x at *
  unfold maxLen at h91
  have hqc : q < cg := by omega
  have hpc : p < cg := by omega
  clear hoc hb6 hx hy
  go_wp2_with fail
  go_region
  have HS7 : Hid (Rd ((w6.setCell ⟨b, p, none⟩ (.int .i64 (y : Nat))).setCell ⟨b, q, none⟩ (.int .i64 (x : Nat))).drew (.slice (some ⟨b, 0, none⟩) n cg) (tabI n (sw f p q))) := HST.out.rd
  have HA7 : Hid (Rd ((w6.setCell ⟨b, p, none⟩ (.int .i64 (y : Nat))).setCell ⟨b, q, none⟩ (.int .i64 (x : Nat))).drew (.slice a n cap) (tabI n f)) := HF1.out.below HBS.out (Nat.le_refl _)
  have HB7 := Lib.hid (HB5.out.trans (HBS.out.mono HB5.out.size))
  clear cp cq fp fq HST HBS HG1 HF1
  generalize ((w6.setCell ⟨b, p, none⟩ (.int .i64 (y : Nat))).setCell ⟨b, q, none⟩ (.int .i64 (x : Nat))).drew = w7 at *
  go_wp2_with fail
  refine (odd_tab _ n _ _ HS7.out hn HPS.out).mono ?_
  rintro e w8 ⟨hb8, rfl⟩
  rw [HPP.out]
  have HB8 := Lib.hid (HB7.out.trans (hb8.mono HB7.out.size))
  have HS8 := Lib.hid (HS7.out.below hb8 (Nat.le_refl _))
  have HA8 := Lib.hid (HA7.out.below hb8 (Nat.le_refl _))
  clear hb8 HS7 HA7 HPP
  go_wp2_with fail
  refine (of_cnt _ n _ _ HA8.out hn HPF.out).mono ?_
  rintro e w9 ⟨hb9, xa, xc, rfl⟩
  have HB9 := Lib.hid (HB8.out.trans (hb9.mono HB8.out.size))
  have HS9 := Lib.hid (HS8.out.below hb9 (Nat.le_refl _))
  clear hb9 HS8 HA8
  go_wp2_with fail
  refine (of_cnt _ n _ _ HS9.out hn HPS.out).mono ?_
  rintro e w10 ⟨hb10, ya, yc, rfl⟩
  have HB10 := Lib.hid (HB9.out.trans (hb10.mono HB9.out.size))
  clear hb10 HS9
  have e1 : cnt f n = (lows f n n).length := rfl
  have e2 : cnt (sw f p q) n = (lows (sw f p q) n n).length := rfl
  have hgap := HGAP.out
  rw [← e1, ← e2] at hgap
  rw [← e1] at hl1
  rw [← e2] at hl2
  clear e1 e2 HGAP
  generalize cnt f n = C at *
  generalize cnt (sw f p q) n = D at *
  rcases hgap with hgap | hgap
  · have hd : (C : Int) - (D : Int) = 1 := by omega
    cases p1
    all_goals
      go_wp2_with fail
      go_ret
      exact ⟨rfl, HB10.out⟩
  · have hd : (C : Int) - (D : Int) = -1 := by omega
    cases p1
    all_goals
      go_wp2_with fail
      go_ret
      exact ⟨rfl, HB10.out⟩
theorem walk_any (v v2 : Value) (zs ys : List Int) (i j : Int) (w : World) (h : Rd w v zs) (h2 : Rd w v2 ys) :
    Calls Try.prog 3 #[v, v2, .int .i64 i, .int .i64 j] w fun e w' => e = .returned (.bool true) ∧ Below w.heap.size w w' := by
  by_cases hk : OkP zs ∧ OkP ys ∧ zs.length = ys.length
  · obtain ⟨k1, k2, hl⟩ := hk
    rw [k1.tab] at h
    rw [k2.tab, ← hl] at h2
    have hp2 := k2.pm
    rw [← hl] at hp2
    exact walk_ok v v2 zs.length _ _ i j w h h2 k1.1 k1.pm hp2
  · exact walk_bad v v2 zs ys i j w h h2 hk
theorem walk (a : Option Addr) (len cap : Nat) (z : List Int) (a2 : Option Addr) (len2 cap2 : Nat) (z2 : List Int) (i j : Int) (w : World) (h : IsRow .i64 w a len cap z) (h2 : IsRow .i64 w a2 len2 cap2 z2) (hi : (Lit.int .i64 i).wf = true) (hj : (Lit.int .i64 j).wf = true) :
    Calls Try.prog 3 #[.slice a len cap, .slice a2 len2 cap2, .int .i64 i, .int .i64 j] w fun e w' => e = .returned (.bool true) ∧ Below w.heap.size w w' :=
  walk_any _ _ _ _ i j w h.rd.1 h2.rd.1
end Go.Proofs.Ythnalgkojoeniaa.cyclesOdd
