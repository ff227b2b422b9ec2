/- perm.Right: what it answers. No condition. -/
import Derived.Test.YthaiopgmncnekaaDoorCycDef
set_option linter.unusedSimpArgs false
set_option linter.unusedVariables false
set_option maxRecDepth 20000
namespace Go.Proofs.YthaiopgmncnekaaDoor.Cyc
open Go.RowKit
/-- The list has each number below its length just once, and is short. -/
def OkP (zs : List Int) : Prop := zs.length ≤ 20 ∧ (∀ i, i < zs.length → 0 ≤ zs.getD i 0 ∧ zs.getD i 0 < zs.length) ∧ ∀ i, i < zs.length → ∀ j, j < i → zs.getD i 0 ≠ zs.getD j 0
instance (zs : List Int) : Decidable (OkP zs) := by unfold OkP; infer_instance
theorem OkP.nd {zs : List Int} (h : OkP zs) {i : Nat} (hi : i < zs.length) : zs.getD i 0 = (nd zs i : Int) := by
  have := h.2.1 i hi; unfold YthaiopgmncnekaaDoor.Cyc.nd; omega
theorem OkP.lt {zs : List Int} (h : OkP zs) {i : Nat} (hi : i < zs.length) : YthaiopgmncnekaaDoor.Cyc.nd zs i < zs.length := by
  have := h.2.1 i hi; unfold YthaiopgmncnekaaDoor.Cyc.nd; omega
theorem OkP.inj {zs : List Int} (h : OkP zs) {i j : Nat} (hi : i < zs.length) (hj : j < zs.length) (e : YthaiopgmncnekaaDoor.Cyc.nd zs i = YthaiopgmncnekaaDoor.Cyc.nd zs j) : i = j := by
  have e2 : zs.getD i 0 = zs.getD j 0 := by rw [h.nd hi, h.nd hj, e]
  rcases Nat.lt_trichotomy i j with h1 | h1 | h1
  · exact absurd e2.symm (h.2.2 j hj i h1)
  · exact h1
  · exact absurd e2 (h.2.2 i hi j h1)
theorem OkP.mk' {n : Nat} {f : Nat → Nat} (hn : n ≤ 20) (h1 : ∀ i, i < n → f i < n) (h2 : ∀ i j, i < n → j < n → f i = f j → i = j) : OkP (tabI n f) := by
  refine ⟨by rw [tabI_len]; exact hn, fun i hi => ?_, fun i hi j hj e => ?_⟩
  · rw [tabI_len] at hi ⊢
    rw [tabI_get _ _ _ hi]
    have := h1 i hi; omega
  · rw [tabI_len] at hi
    rw [tabI_get _ _ _ hi, tabI_get _ _ _ (by omega)] at e
    have := h2 i j hi (by omega) (by omega)
    omega
theorem OkP.tab {zs : List Int} (h : OkP zs) : zs = tabI zs.length (YthaiopgmncnekaaDoor.Cyc.nd zs) := tab_nd fun i hi => (h.2.1 i hi).1
set_option maxHeartbeats 1600000 in
theorem right_any (v : Value) (zs : List Int) (w : World) (h : Rd w v zs) : Calls Tryd.prog 38 #[v] w fun e w' => e = .returned (.bool (decide (OkP zs))) ∧ Below w.heap.size w w' := by
  obtain ⟨i0, hinfo, hz0, hz1, hz2⟩ := info_parts Tryd.info4t
  obtain ⟨a, cap, rfl, hlc, hcm, hop⟩ := h.open
  have HOP := Lib.hid hop
  clear h hop
  by_cases hl : zs.length ≤ 20
  · have HN : Hid (¬ (∀ i, i < zs.length → 0 ≤ zs.getD i 0 ∧ zs.getD i 0 < zs.length) ∨ ¬ (∀ i, i < zs.length → ∀ j, j < i → zs.getD i 0 ≠ zs.getD j 0) → decide (OkP zs) = false) := fun h => decide_eq_false fun h' => h.elim (fun h => h h'.2.1) (fun h => h h'.2.2)
    have HY : Hid ((∀ i, i < zs.length → 0 ≤ zs.getD i 0 ∧ zs.getD i 0 < zs.length) → (∀ i, i < zs.length → ∀ j, j < i → zs.getD i 0 ≠ zs.getD j 0) → decide (OkP zs) = true) := fun h1 h2 => decide_eq_true ⟨hl, h1, h2⟩
    generalize decide (OkP zs) = bv at *
    generalize zs.length = n at *
    have b2 : i0.bytes * n ≤ 281474976710656 := by rw [hz2]; omega
    have b3 : n ≤ maxLen := by unfold maxLen; omega
    go_enter Tryd.func38, Tryd.ntmps38
    go_wp2_with (refine wpList_make_full _ rfl _ _ 57 rfl w.heap.size 4 i0 (.bool false) 1 Tryd.underlying57 hinfo hz0 hz1 .i64 .i64 _ _ n rfl rfl ?hL ?hC b2 b3 (Nat.le_refl _) ?_)
    case hL => simp
    case hC => simp
    intro w1 hown hgr
    have HB := Lib.hid ((Below.refl w.heap.size w).grown hgr (Nat.le_refl _) (fun k hk => by cases hk))
    rw [falses_eq] at hown
    have hlt0 := hown.lt _ rfl
    have HO := Lib.hid hown
    obtain ⟨g, hg⟩ : ∃ g, w.heap.size = g := ⟨_, rfl⟩
    rw [hg] at HB HO hlt0 ⊢
    have HG := Lib.hid hg
    clear hown hgr b2 b3 hg
    go_wp2_with fail
    go_loopw [14, 5] (fun iv _ wr => ∃ (i : Nat) (c : List Bool), i ≤ n ∧ iv = .int .i64 i ∧ Below g w wr ∧ wr.ownsRow g 4 1 (.slice (some ⟨g, 0, none⟩) n n) n (c.map Value.bool) ∧ Hid (Had (nd zs) c n i) ∧ Hid (∀ k, k < i → 0 ≤ zs.getD k 0 ∧ zs.getD k 0 < n) ∧ Hid (∀ k, k < i → ∀ j, j < k → zs.getD k 0 ≠ zs.getD j 0)) (fun iv _ _ => n - (intOf iv).toNat)
    case atStart => exact ⟨0, _, Nat.zero_le _, rfl, HB.out, HO.out, Had.zero _ _, fun k hk => absurd hk (Nat.not_lt_zero k), fun k hk => absurd hk (Nat.not_lt_zero k)⟩
    case round =>
      clear HB HO
      obtain ⟨i, c, hi, rfl, hbel, ho, hhad, h1, h2⟩ := hrel
      by_cases hlt : i < n
      · obtain ⟨b, off, rfl, hb, hc⟩ := HOP.out i hlt
        have cx := (World.cell?_of_block (hbel.block b (by rw [← HG.out]; exact hb))).trans (hc i hlt)
        have HBE := Lib.hid hbel
        have HO := Lib.hid ho
        obtain ⟨x, hx⟩ : ∃ x, zs.getD i 0 = x := ⟨_, rfl⟩
        rw [hx] at cx
        have HX := Lib.hid hx
        clear hbel ho hc hx
        by_cases k1 : x < 0
        · have f1 : decide (x < 0) = true := decide_eq_true k1
          have HF := Lib.hid (HN.out (.inl fun h => by have := (h i hlt).1; rw [HX.out] at this; omega))
          go_wp2_with fail
          go_ret
          exact ⟨by rw [HF.out]; rfl, by rw [HG.out]; exact HBE.out⟩
        · have f1 : decide (x < 0) = false := decide_eq_false k1
          by_cases k2 : (n : Int) ≤ x
          · have f2 : decide ((n : Int) ≤ x) = true := decide_eq_true k2
            have HF := Lib.hid (HN.out (.inl fun h => by have := (h i hlt).2; rw [HX.out] at this; omega))
            go_wp2_with fail
            go_ret
            exact ⟨by rw [HF.out]; rfl, by rw [HG.out]; exact HBE.out⟩
          · obtain ⟨m, rfl⟩ : ∃ m : Nat, x = m := ⟨x.toNat, by omega⟩
            have hmn : m < n := by omega
            have f1 : decide ((m : Int) < 0) = false := decide_eq_false (by omega)
            have f2 : decide ((n : Int) ≤ (m : Int)) = false := decide_eq_false (by omega)
            have f3 : decide (n ≤ m) = false := decide_eq_false (by omega)
            have hndi : nd zs i = m := by unfold nd; rw [HX.out]; simp
            have cc := ownb_get HO.out m hmn
            have hiff := hhad.out.2 m hmn
            by_cases k3 : c.getD m false = true
            · rw [k3] at cc
              obtain ⟨j, hj1, hj2⟩ := hiff.1 k3
              have HF := Lib.hid (HN.out (.inr fun h => h i hlt j hj1 (by
                rw [HX.out]
                have := h1.out j hj1
                unfold nd at hj2
                omega)))
              clear hiff k3 hndi
              go_wp2_with fail
              go_ret
              exact ⟨by rw [HF.out]; rfl, by rw [HG.out]; exact HBE.out⟩
            · have k4 : c.getD m false = false := by simpa using k3
              rw [k4] at cc
              have cf := World.ownsRow.frozenAt HO.out m
              have HSET := Lib.hid (ownb_set HO.out m true)
              have HBS := Lib.hid (HBE.out.setCell (show g ≤ (⟨g, m, none⟩ : Addr).block from Nat.le_refl _) (.bool true))
              have HH := Lib.hid (Had.step hhad.out (by rw [hndi]; exact hmn))
              rw [hndi] at HH
              have HN1 : Hid (∀ k, k < i + 1 → 0 ≤ zs.getD k 0 ∧ zs.getD k 0 < n) := fun k hk => by
                by_cases e : k = i
                · subst e; rw [HX.out]; omega
                · exact h1.out k (by omega)
              have HN2 : Hid (∀ k, k < i + 1 → ∀ j, j < k → zs.getD k 0 ≠ zs.getD j 0) := fun k hk j hj => by
                by_cases e : k = i
                · subst e
                  rw [HX.out]
                  intro e2
                  exact k3 (hiff.2 ⟨j, hj, by unfold nd; rw [← e2]; simp⟩)
                · exact h2.out k (by omega) j hj
              clear hiff k3 k4 hndi
              go_wp2_with fail
              exact ⟨⟨i + 1, _, by omega, by go_num, HBS.out, HSET.out, HH, HN1, HN2⟩, by simp [intOf]; omega⟩
      · obtain rfl : i = n := by omega
        have HF := Lib.hid (HY.out h1.out h2.out)
        have HBE := Lib.hid hbel
        clear hbel ho
        go_wp2_with fail
        go_ret
        exact ⟨by rw [HF.out]; rfl, by rw [HG.out]; exact HBE.out⟩
  · have HF : Hid (decide (OkP zs) = false) := decide_eq_false fun h => hl h.1
    generalize zs.length = n at *
    go_enter Tryd.func38, Tryd.ntmps38
    go_wp2_with fail
    go_ret
    exact ⟨by rw [HF.out]; rfl, Below.refl _ _⟩
end Go.Proofs.YthaiopgmncnekaaDoor.Cyc
