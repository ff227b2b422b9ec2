/- The walk of PermPairs. No condition. -/
import Derived.Test.YtdneljpimocgfaaPairsL
import Derived.Test.YtdneljpimocgfaaPermGroupW
import Derived.Test.YtdneljpimocgfaaClone
import Derived.RegionTactic
import Derived.BigRegion
set_option linter.unusedSimpArgs false
set_option linter.unusedVariables false
namespace Go.Proofs.Ytdneljpimocgfaa.permPairs
open Go.RowKit Go.Proofs.Ytdneljpimocgfaa
theorem W_congr {f g : Nat → Nat} {n : Nat} (h : ∀ i, i < n → f i = g i) : W f n = W g n :=
  tot_congr fun i hi => tot_congr fun j hj => by rw [h i hi, h j (by omega)]
theorem W_tab (n : Nat) (F : Nat → Nat) : W (nd (tabI n F)) n = W F n := W_congr fun i hi => by rw [nd_tabI, if_pos hi]
theorem wi_le (f : Nat → Nat) (i : Nat) : wi f i ≤ i := by
  have := tot_le (f := fun j => lt1 (f i) (f j)) (c := 1) (k := i) (fun j _ => by unfold lt1; split <;> omega)
  unfold wi; omega
theorem W_le (f : Nat → Nat) {n : Nat} (hn : n ≤ 20) : W f n ≤ 400 := by
  have := tot_le (f := wi f) (c := 20) (k := n) (fun i hi => by have := wi_le f i; omega)
  unfold W
  have h2 := Nat.mul_le_mul hn (Nat.le_refl 20)
  omega
set_option maxHeartbeats 800000 in
theorem sum_ok (v : Value) (n : Nat) (f : Nat → Nat) (hn : n ≤ 20) (hf : ∀ k, f k ≤ 20) (w : World) (h : Rd w v (tabI n f)) :
    Calls Try.prog 15 #[v] w fun e w' => e = .returned (.int .i64 (tot f n : Nat)) ∧ w' = w := by
  obtain ⟨a, cap, rfl, hlc, hcm, hop⟩ := h.open
  rw [tabI_len] at hlc hop ⊢
  have HOP := Lib.hid hop
  have HF := Lib.hid hf
  have HT : Hid (∀ i, i ≤ n → tot f i ≤ 400) := fun i hi => by
    have := tot_le (f := f) (c := 20) (k := i) (fun j _ => hf j)
    have h2 := Nat.mul_le_mul (show i ≤ 20 by omega) (Nat.le_refl 20)
    omega
  clear h hop hf
  go_enter Try.func15, Try.ntmps15
  go_wp2_with fail
  go_loop [8, 3, 5] (fun iv sv _ => ∃ i : Nat, i ≤ n ∧ iv = .int .i64 i ∧ sv = .int .i64 (tot f i : Nat)) (fun iv _ _ => n - (intOf iv).toNat)
  case atStart => exact ⟨0, Nat.zero_le _, rfl, rfl⟩
  case round =>
    obtain ⟨i, hi, rfl, rfl⟩ := hrel
    by_cases hlt : i < n
    · obtain ⟨b, off, rfl, hb, hc⟩ := HOP.out i hlt
      have cx := hc i hlt
      rw [tabI_get _ _ _ hlt] at cx
      have h1 := HF.out i
      have h2 := HT.out i hi
      have HR : Hid (tot f (i + 1) = tot f i + f i) := rfl
      clear hc
      generalize tot f i = s at *
      generalize f i = x at *
      go_wp2_with fail
      exact ⟨⟨i + 1, by omega, by go_num, by rw [HR.out]; rfl⟩, by simp [intOf]; omega⟩
    · obtain rfl : i = n := by omega
      go_wp2_with fail
      go_ret
      exact ⟨rfl, rfl⟩
set_option maxHeartbeats 3200000 in
theorem walk_bad (v : Value) (zs : List Int) (k : Int) (w : World) (h : Rd w v zs) (hno : ¬ OkP zs) :
    Calls Try.prog 5 #[v, .int .i64 k] w fun e w' => e = .returned (.bool true) ∧ Below w.heap.size w w' := by
  have HR := Lib.hid h
  clear h
  go_enter Try.func5, Try.ntmps5
  go_wp2_with fail
  refine (alive_any _).mono ?_
  rintro e w1 ⟨rfl, hb1⟩
  have HB1 := Lib.hid hb1
  have HA1 := Lib.hid (HR.out.below hb1 (Nat.le_refl _))
  clear hb1
  go_wp2_with fail
  refine (code_bad _ _ _ HA1.out hno).mono ?_
  rintro e w2 ⟨hb2, rfl⟩
  have HB2 := Lib.hid (HB1.out.trans (hb2.mono HB1.out.size))
  have HA2 := Lib.hid (HA1.out.below hb2 (Nat.le_refl _))
  clear hb2
  go_wp2_with fail
  refine (back_bad _ _ _ HA2.out hno).mono ?_
  rintro e w3 ⟨hb3, rfl⟩
  have HB3 := Lib.hid (HB2.out.trans (hb3.mono HB2.out.size))
  clear hb3
  go_wp2_with fail
  go_ret
  exact ⟨rfl, HB3.out⟩
set_option maxHeartbeats 3200000 in
theorem walk_ok (v : Value) (zs : List Int) (k : Int) (hk1 : -9223372036854775808 ≤ k) (hk2 : k ≤ 9223372036854775807) (w : World) (h : Rd w v zs) (ho : OkP zs) :
    Calls Try.prog 5 #[v, .int .i64 k] w fun e w' => e = .returned (.bool true) ∧ Below w.heap.size w w' := by
  have HR := Lib.hid h
  have HOK := Lib.hid ho
  have hn := ho.1
  have HND : Hid (∀ k, k < zs.length → zs.getD k 0 = (nd zs k : Int)) := fun k hk => ho.nd hk
  obtain ⟨a, cap, rfl, hlc, hcm, hop⟩ := h.open
  have HOP := Lib.hid hop
  clear h ho hop
  go_enter Try.func5, Try.ntmps5
  go_wp2_with fail
  refine (alive_any _).mono ?_
  rintro e w1 ⟨rfl, hb1⟩
  have HB1 := Lib.hid hb1
  have HA1 := Lib.hid (HR.out.below hb1 (Nat.le_refl _))
  clear hb1
  go_wp2_with fail
  refine (code_ok _ _ _ HA1.out HOK.out).mono ?_
  rintro e w2 ⟨hb2, uc, rfl, huc⟩
  have HB2 := Lib.hid (HB1.out.trans (hb2.mono HB1.out.size))
  have HA2 := Lib.hid (HA1.out.below hb2 (Nat.le_refl _))
  have HUC := Lib.hid huc
  clear hb2 huc
  go_wp2_with fail
  refine (back_ok _ _ _ HA2.out HOK.out).mono ?_
  rintro e w3 ⟨hb3, ub, rfl, hub⟩
  have HB3 := Lib.hid (HB2.out.trans (hb3.mono HB2.out.size))
  have HA3 := Lib.hid (HA2.out.below hb3 (Nat.le_refl _))
  have HUC3 := Lib.hid (HUC.out.below hb3 (Nat.le_refl _))
  have HUB := Lib.hid hub
  clear hb3 hub HUC
  go_wp2_with fail
  refine (code_ok _ _ _ HUB.out (okp_back HOK.out)).mono ?_
  rintro e w4 ⟨hb4, ud, rfl, hud⟩
  have HB4 := Lib.hid (HB3.out.trans (hb4.mono HB3.out.size))
  have HA4 := Lib.hid (HA3.out.below hb4 (Nat.le_refl _))
  have HUC4 := Lib.hid (HUC3.out.below hb4 (Nat.le_refl _))
  have HWI : Hid (tot (cd (nd (tabI zs.length (inv (nd zs) zs.length))) zs.length) zs.length = W (nd zs) zs.length) := by
    show _ = _
    rw [sum_code, W_tab]
    exact W_inv (fun i hi => HOK.out.lt hi) (fun i hi => inv_lt (by omega)) (fun i hi => inv_of HOK.out hi) (fun i hi => of_inv HOK.out hi)
  have HWC := Lib.hid (sum_code (nd zs) zs.length)
  rw [tabI_len] at hud
  have HUD := Lib.hid hud
  clear hb4 hud HUC3 HUB
  obtain ⟨n, hnn⟩ : ∃ n, zs.length = n := ⟨_, rfl⟩
  have HLN := Lib.hid hnn
  rw [hnn] at hn HND hlc HOP HUC4 HUD HWI HWC HA4 ⊢
  clear hnn HA1 HA2 HA3 HR
  go_wp2_with fail
  have HWL : Hid (∀ m, m ≤ 20 → W (nd zs) m ≤ 400) := fun m hm => W_le _ hm
  have HWI2 : Hid (∀ i, wi (nd zs) i ≤ i) := wi_le _
  go_loopw [52, 12, 13, 14] (fun iv nv _ _ wr => ∃ i : Nat, i ≤ n ∧ iv = .int .i64 i ∧ nv = .int .i64 (W (nd zs) i : Nat) ∧ Hid (∃ q, wr = w4.drewN q)) (fun iv _ _ _ _ => n - (intOf iv).toNat)
  case atStart => exact ⟨0, Nat.zero_le _, rfl, rfl, 0, rfl⟩
  case round =>
    obtain ⟨i, hi, rfl, rfl, hq⟩ := hrel
    by_cases hlt : i < n
    · go_wp2_with fail
      go_loopw [56, 12, 14] (fun jv nv _ wr => ∃ j : Nat, j ≤ i ∧ jv = .int .i64 j ∧ nv = .int .i64 ((W (nd zs) i + tot (fun j => lt1 (nd zs i) (nd zs j)) j : Nat) : Int) ∧ Hid (∃ q, wr = w4.drewN q)) (fun jv _ _ _ => i - (intOf jv).toNat)
      case atStart => exact ⟨0, Nat.zero_le _, rfl, rfl, hq⟩
      case round =>
        clear hq
        obtain ⟨j, hj, rfl, rfl, hq⟩ := hrel
        by_cases hlj : j < i
        · obtain ⟨b, off, rfl, hb, hc⟩ := HOP.out i hlt
          have ci : wr.cell? ⟨b, off + i, none⟩ = some (.int .i64 (nd zs i : Nat)) := by
            obtain ⟨q, rfl⟩ := hq.out
            have := (World.cell?_of_block (HB4.out.block b hb)).trans (hc i hlt)
            rw [HND.out i hlt] at this
            exact this
          have cj : wr.cell? ⟨b, off + j, none⟩ = some (.int .i64 (nd zs j : Nat)) := by
            obtain ⟨q, rfl⟩ := hq.out
            have := (World.cell?_of_block (HB4.out.block b hb)).trans (hc j (by omega))
            rw [HND.out j (by omega)] at this
            exact this
          have HQ : Hid (∀ m, ∃ q, wr.drewN m = w4.drewN q) := fun m => by
            obtain ⟨q, rfl⟩ := hq.out
            exact ⟨_, World.drewN_drewN _ _ _⟩
          have hw := HWL.out i (by omega)
          have ht : tot (fun j => lt1 (nd zs i) (nd zs j)) j ≤ j := by
            have := tot_le (f := fun j => lt1 (nd zs i) (nd zs j)) (c := 1) (k := j) (fun j _ => by unfold lt1; split <;> omega)
            omega
          have HST : Hid (tot (fun j => lt1 (nd zs i) (nd zs j)) (j + 1) = tot (fun j => lt1 (nd zs i) (nd zs j)) j + lt1 (nd zs i) (nd zs j)) := rfl
          have g1 : ((n : Int) ≤ (i : Int)) = False := eq_false (by omega)
          have g2 : (n ≤ i) = False := eq_false (by omega)
          have g3 : ((n : Int) ≤ (j : Int)) = False := eq_false (by omega)
          have g4 : (n ≤ j) = False := eq_false (by omega)
          clear hc hq
          generalize tot (fun j => lt1 (nd zs i) (nd zs j)) j = t at *
          generalize W (nd zs) i = s at *
          by_cases hx : nd zs i < nd zs j
          · have hl : lt1 (nd zs i) (nd zs j) = 1 := by unfold lt1; rw [if_pos hx]
            rw [hl] at HST
            have f1 : decide ((nd zs i : Int) < (nd zs j : Int)) = true := decide_eq_true (by omega)
            have f2 : (nd zs i < nd zs j) = True := eq_true hx
            clear hl hx
            go_wp2_with fail
            go_quiet (fail)
            go_wp2_with fail
            exact ⟨⟨j + 1, by omega, by go_num, by rw [HST.out, ← Nat.add_assoc]; rfl, HQ.out _⟩, by simp [intOf]; omega⟩
          · have hl : lt1 (nd zs i) (nd zs j) = 0 := by unfold lt1; rw [if_neg hx]
            rw [hl] at HST
            have f1 : decide ((nd zs i : Int) < (nd zs j : Int)) = false := decide_eq_false (by omega)
            have f2 : (nd zs i < nd zs j) = False := eq_false hx
            clear hl hx
            go_wp2_with fail
            go_quiet (fail)
            go_wp2_with fail
            exact ⟨⟨j + 1, by omega, by go_num, by rw [HST.out, Nat.add_zero], HQ.out _⟩, by simp [intOf]; omega⟩
        · obtain rfl : j = i := by omega
          have HW : Hid (W (nd zs) (j + 1) = W (nd zs) j + tot (fun i => lt1 (nd zs j) (nd zs i)) j) := rfl
          go_wp2_with fail
          exact ⟨⟨j + 1, by omega, by go_num, by rw [HW.out], hq⟩, by simp [intOf]; omega⟩
    · obtain rfl : i = n := by omega
      obtain ⟨q, rfl⟩ := hq.out
      have HB5 : Hid (Below w.heap.size w (w4.drewN q)) := HB4.out.drewN q
      have HA5 : Hid (Rd (w4.drewN q) (.slice a i cap) zs) := HA4.out
      have HUC5 : Hid (Rd (w4.drewN q) uc (tabI i (cd (nd zs) i))) := HUC4.out
      have HUD5 : Hid (Rd (w4.drewN q) ud (tabI i (cd (nd (tabI i (inv (nd zs) i))) i))) := HUD.out
      clear hq HA4 HUC4 HUD HB4
      generalize w4.drewN q = w5 at *
      have hsb := HWL.out i hn
      have HCB : Hid (∀ f k, cd f i k ≤ 20) := fun f k => by have := cd_le f i k; omega
      obtain ⟨S, hS⟩ : ∃ S, W (nd zs) i = S := ⟨_, rfl⟩
      rw [hS] at HWI HWC hsb ⊢
      have HS := Lib.hid hS
      clear hS
      go_wp2_with fail
      refine (sum_ok _ _ _ hn (HCB.out _) _ HUC5.out).mono ?_
      rintro e w6 ⟨rfl, rfl⟩
      rw [HWC.out]
      go_wp2_with fail
      refine (sum_ok _ _ _ hn (HCB.out _) _ HUD5.out).mono ?_
      rintro e w7 ⟨rfl, rfl⟩
      rw [HWI.out]
      by_cases c1 : k < 0
      · have f1 : decide (k < 0) = true := decide_eq_true c1
        go_wp2_with fail
        go_ret
        exact ⟨rfl, HB5.out⟩
      · have f1 : decide (k < 0) = false := decide_eq_false c1
        by_cases c2 : (i : Int) ≤ k
        · have f2 : decide ((i : Int) ≤ k) = true := decide_eq_true c2
          go_wp2_with fail
          go_ret
          exact ⟨rfl, HB5.out⟩
        · have f2 : decide ((i : Int) ≤ k) = false := decide_eq_false c2
          by_cases c3 : (i : Int) ≤ k + 1
          · have f3 : decide ((i : Int) ≤ k + 1) = true := decide_eq_true c3
            go_wp2_with fail
            go_ret
            exact ⟨rfl, HB5.out⟩
          · have f3 : decide ((i : Int) ≤ k + 1) = false := decide_eq_false c3
            obtain ⟨m, rfl⟩ : ∃ m : Nat, k = m := ⟨k.toNat, by omega⟩
            have hm : m + 1 < i := by omega
            clear c1 c2 c3
            go_wp2_with fail
            refine (clone_any _ _ _ HA5.out (by rw [HLN.out]; omega)).mono ?_
            rintro e w8 ⟨vq, rfl, ho8, hb8⟩
            rw [HLN.out] at ho8
            have hoc : w8.ownsRow w7.heap.size 3 1 vq i ((tabI i (nd zs)).map (Value.int .i64)) := by
              have e := HOK.out.tab
              rw [HLN.out] at e
              rw [← e]
              exact ho8
            obtain ⟨g, cg, rfl, h9, h91, h92, h93, -⟩ := own_open hoc (by omega)
            have hoc : OC w8 w7.heap.size g i cg (nd zs) := hoc
            have HA8 := Lib.hid (HA5.out.below hb8 (Nat.le_refl _))
            have HB8 := Lib.hid (HB5.out.trans (hb8.mono HB5.out.size))
            have cm := hoc.get m (by omega)
            have cm1 := hoc.get (m + 1) hm
            have fm := hoc.frozen m
            have fm1 := hoc.frozen (m + 1)
            have HST := Lib.hid ((hoc.set m (nd zs (m + 1))).set (m + 1) (nd zs m))
            have HBS := Lib.hid ((hb8.setCell (show w7.heap.size ≤ (⟨g, m, none⟩ : Addr).block from h92) (.int .i64 (nd zs (m + 1) : Nat))).setCell (show w7.heap.size ≤ (⟨g, m + 1, none⟩ : Addr).block from h92) (.int .i64 (nd zs m : Nat)))
            have HNE : Hid (nd zs m ≠ nd zs (m + 1)) := fun e => by
              have := HOK.out.inj (i := m) (j := m + 1) (by rw [HLN.out]; omega) (by rw [HLN.out]; omega) e
              omega
            have HSW := Lib.hid (W_sw (f := nd zs) (n := i) (k := m) hm HNE.out)
            rw [HS.out] at HSW
            have HSF : Hid (∀ j, (if j = m + 1 then nd zs m else if j = m then nd zs (m + 1) else nd zs j) = sw2 (nd zs) m j) := fun j => by
              unfold sw2
              by_cases e1 : j = m
              · rw [if_neg (by omega), if_pos e1, if_pos e1]
              · rw [if_neg e1, if_neg e1]
            have HOQ : Hid (OkP (tabI i (sw2 (nd zs) m))) := OkP.mk' hn (fun j hj => by
                unfold sw2
                split
                · have := HOK.out.lt (i := m + 1) (by rw [HLN.out]; exact hm); rw [HLN.out] at this; exact this
                · split
                  · have := HOK.out.lt (i := m) (by rw [HLN.out]; omega); rw [HLN.out] at this; exact this
                  · have := HOK.out.lt (i := j) (by rw [HLN.out]; omega); rw [HLN.out] at this; exact this) (fun p q hp hq e => by
                have inj : ∀ a b, a < i → b < i → nd zs a = nd zs b → a = b := fun a b ha hb e => HOK.out.inj (by rw [HLN.out]; exact ha) (by rw [HLN.out]; exact hb) e
                unfold sw2 at e
                by_cases p1 : p = m
                · rw [if_pos p1] at e
                  by_cases q1 : q = m
                  · omega
                  · rw [if_neg q1] at e
                    by_cases q2 : q = m + 1
                    · rw [if_pos q2] at e; have := inj _ _ hm (by omega) e; omega
                    · rw [if_neg q2] at e; have := inj _ _ hm hq e; omega
                · rw [if_neg p1] at e
                  by_cases p2 : p = m + 1
                  · rw [if_pos p2] at e
                    by_cases q1 : q = m
                    · rw [if_pos q1] at e; have := inj _ _ (by omega) hm e; omega
                    · rw [if_neg q1] at e
                      by_cases q2 : q = m + 1
                      · omega
                      · rw [if_neg q2] at e; have := inj _ _ (by omega) hq e; omega
                  · rw [if_neg p2] at e
                    by_cases q1 : q = m
                    · rw [if_pos q1] at e; have := inj _ _ hp hm e; omega
                    · rw [if_neg q1] at e
                      by_cases q2 : q = m + 1
                      · rw [if_pos q2] at e; have := inj _ _ hp (by omega) e; omega
                      · rw [if_neg q2] at e; exact inj _ _ hp hq e)
            have HWQ : Hid (tot (cd (nd (tabI i (sw2 (nd zs) m))) i) i = W (sw2 (nd zs) m) i) := by
              show _ = _
              rw [sum_code, W_tab]
            have hwq := W_le (sw2 (nd zs) m) hn
            obtain ⟨b, off, rfl, hb, hc⟩ := HOP.out m (by omega)
            have HC := Lib.hid hc
            clear ho8 hoc hb8 hc
            unfold maxLen at h91
            have hmi : m < i := by omega
            have hmc : m + 1 < cg := by omega
            have hne : ¬ m = m + 1 := by omega
            have q1 : IntKind.i64.wrap ((m : Int) + 1) = ((m + 1 : Nat) : Int) := by rw [IntKind.wrap_i64]; omega
            generalize hy : nd zs (m + 1) = y at *
            have HY := Lib.hid hy
            generalize hx : nd zs m = x at *
            have HX := Lib.hid hx
            clear hy hx
            go_wp2_with fail
            go_region
            have HR9 : Hid (Rd ((w8.setCell ⟨g, m, none⟩ (.int .i64 (y : Nat))).setCell ⟨g, m + 1, none⟩ (.int .i64 (x : Nat))).drew (.slice (some ⟨g, 0, none⟩) i cg) (tabI i (sw2 (nd zs) m))) := (HST.out.congr (fun j _ => HSF.out j)).rd
            have HB9 := Lib.hid HBS.out.drew
            clear cm cm1 fm fm1 q1 hne HST HBS
            generalize ((w8.setCell ⟨g, m, none⟩ (.int .i64 (y : Nat))).setCell ⟨g, m + 1, none⟩ (.int .i64 (x : Nat))).drew = w9 at *
            go_wp2_with fail
            refine (code_ok _ _ _ HR9.out HOQ.out).mono ?_
            rintro e w10 ⟨hb10, uq, rfl, huq⟩
            rw [tabI_len] at huq
            have hb79 := HB9.out.trans (hb10.mono HB9.out.size)
            have HB10 := Lib.hid (HB5.out.trans (hb79.mono HB5.out.size))
            have cp := (World.cell?_of_block (HB10.out.block b hb)).trans (HC.out m hmi)
            have cp1 := (World.cell?_of_block (HB10.out.block b hb)).trans (HC.out (m + 1) hm)
            rw [HND.out m hmi, HX.out] at cp
            rw [HND.out (m + 1) hm, HY.out] at cp1
            have HUQ := Lib.hid huq
            have g1 : ((i : Int) ≤ (m : Int)) = False := eq_false (by omega)
            have g2 : (i ≤ m) = False := eq_false (by omega)
            have g3 : ((i : Int) ≤ (m : Int) + 1) = False := eq_false (by omega)
            have g4 : (i ≤ m + 1) = False := eq_false (by omega)
            have q1 : IntKind.i64.wrap ((m : Int) + 1) = ((m + 1 : Nat) : Int) := by rw [IntKind.wrap_i64]; omega
            clear hb10 huq hb79
            by_cases hyx : y < x
            · have l1 : lt1 y x = 1 := by unfold lt1; rw [if_pos hyx]
              have l2 : lt1 x y = 0 := by unfold lt1; rw [if_neg (by omega)]
              rw [l1, l2] at HSW
              have hs1 := HSW.out
              rw [← HWQ.out] at hs1
              have f1' : decide ((y : Int) < (x : Int)) = true := decide_eq_true (by omega)
              have f2' : (y < x) = True := eq_true hyx
              clear l1 l2 hyx
              go_wp2_with fail
              go_quiet (fail)
              have HU11 : Hid (∀ t, Rd (w10.drewN t) uq (tabI i (cd (nd (tabI i (sw2 (nd zs) m))) i))) := fun t => HUQ.out
              have HB11 : Hid (∀ t, Below w.heap.size w (w10.drewN t)) := fun t => HB10.out.drewN t
              obtain ⟨T, hT⟩ : ∃ T, tot (cd (nd (tabI i (sw2 (nd zs) m))) i) i = T := ⟨_, rfl⟩
              rw [hT] at hs1
              have HT := Lib.hid hT
              rw [← HWQ.out, hT] at hwq
              clear hT
              go_wp2_with fail
              refine (sum_ok _ _ _ hn (HCB.out _) _ (HU11.out _)).mono ?_
              rintro e w12 ⟨rfl, rfl⟩
              rw [HT.out]
              have e9 : (T : Int) = (S : Int) - 1 := by omega
              rw [e9]
              clear e9 hs1
              go_wp2_with fail
              go_ret
              exact ⟨by first | rfl | (simp; omega), HB11.out _⟩
            · have hxy : x < y := by
                have := HNE.out
                omega
              have l1 : lt1 y x = 0 := by unfold lt1; rw [if_neg hyx]
              have l2 : lt1 x y = 1 := by unfold lt1; rw [if_pos hxy]
              rw [l1, l2] at HSW
              have hs1 := HSW.out
              rw [← HWQ.out] at hs1
              have f1' : decide ((y : Int) < (x : Int)) = false := decide_eq_false (by omega)
              have f2' : (y < x) = False := eq_false hyx
              clear l1 l2 hyx hxy
              go_wp2_with fail
              go_quiet (fail)
              have HU11 : Hid (∀ t, Rd (w10.drewN t) uq (tabI i (cd (nd (tabI i (sw2 (nd zs) m))) i))) := fun t => HUQ.out
              have HB11 : Hid (∀ t, Below w.heap.size w (w10.drewN t)) := fun t => HB10.out.drewN t
              obtain ⟨T, hT⟩ : ∃ T, tot (cd (nd (tabI i (sw2 (nd zs) m))) i) i = T := ⟨_, rfl⟩
              rw [hT] at hs1
              have HT := Lib.hid hT
              rw [← HWQ.out, hT] at hwq
              clear hT
              go_wp2_with fail
              refine (sum_ok _ _ _ hn (HCB.out _) _ (HU11.out _)).mono ?_
              rintro e w12 ⟨rfl, rfl⟩
              rw [HT.out]
              have e9 : (T : Int) = (S : Int) + 1 := by omega
              rw [e9]
              clear e9 hs1
              go_wp2_with fail
              go_ret
              exact ⟨by first | rfl | (simp; omega), HB11.out _⟩
theorem walk (a0 : Option Addr) (len0 cap0 : Nat) (z0 : List Int) (k : Int) (w : World) (w0 : IsRow .i64 w a0 len0 cap0 z0) (hk : (Lit.int .i64 k).wf = true) :
    Calls Try.prog 5 #[.slice a0 len0 cap0, .int .i64 k] w fun e w' => e = .returned (.bool true) ∧ Below w.heap.size w w' := by
  by_cases h : OkP (z0.take len0)
  · exact walk_ok _ _ k (bounds_i64 hk).1 (bounds_i64 hk).2 w w0.rd.1 h
  · exact walk_bad _ _ k w w0.rd.1 h
end Go.Proofs.Ytdneljpimocgfaa.permPairs
