/- bayes.Wrong: what it answers. No condition. -/
import Derived.Test.YtmhkbcfdcbbdgaaLow
set_option linter.unusedSimpArgs false
set_option linter.unusedVariables false
namespace Go.Proofs.Ytmhkbcfdcbbdgaa
open Go.RowKit
def badX (x : Int) : Bool := decide (x < 0) || decide (9 < x)
def wrL (n0 : Nat) : List Int → List (List Int) → Nat
  | p :: ps, r :: rs => if p < 0 ∨ 1000 < p then 2 else if r.length ≠ n0 then 1 else if r.any badX then 2 else wrL n0 ps rs
  | _, _ => 0
def wrF (zs : List Int) (zss : List (List Int)) : Nat :=
  if zs.length ≠ zss.length then 1 else if zs.length < 1 ∨ 8 < zs.length then 2 else wrL (zss.getD 0 []).length zs zss
def OkRow (n0 : Nat) (p : Int) (r : List Int) : Prop := 0 ≤ p ∧ p ≤ 1000 ∧ r.length = n0 ∧ ∀ i, i < r.length → 0 ≤ r.getD i 0 ∧ r.getD i 0 ≤ 9
def OkB (zs : List Int) (zss : List (List Int)) : Prop := zs.length = zss.length ∧ 1 ≤ zs.length ∧ zs.length ≤ 8 ∧ ∀ k, k < zs.length → OkRow (zss.getD 0 []).length (zs.getD k 0) (zss.getD k [])
theorem any_bad {r : List Int} : r.any badX = false ↔ ∀ i, i < r.length → 0 ≤ r.getD i 0 ∧ r.getD i 0 ≤ 9 := by
  rw [List.any_eq_false]
  constructor
  · intro h i hi
    have := h (r.getD i 0) (by rw [List.getD_eq_getElem?_getD, List.getElem?_eq_getElem hi]; exact List.getElem_mem hi)
    unfold badX at this
    simp at this
    exact this
  · intro h x hx
    obtain ⟨i, hi, rfl⟩ := List.getElem_of_mem hx
    have := h i hi
    rw [List.getD_eq_getElem?_getD, List.getElem?_eq_getElem hi] at this
    unfold badX
    simp
    exact this
theorem wrL_zero {n0 : Nat} : ∀ {zs : List Int} {zss : List (List Int)}, zs.length = zss.length → (wrL n0 zs zss = 0 ↔ ∀ k, k < zs.length → OkRow n0 (zs.getD k 0) (zss.getD k []))
  | [], _, _ => by simp [wrL]
  | p :: ps, [], h => by simp at h
  | p :: ps, r :: rs, h => by
    have ih := wrL_zero (n0 := n0) (zs := ps) (zss := rs) (by simpa using h)
    rw [wrL]
    constructor
    · intro h1
      by_cases c1 : p < 0 ∨ 1000 < p
      · rw [if_pos c1] at h1; cases h1
      rw [if_neg c1] at h1
      by_cases c2 : r.length ≠ n0
      · rw [if_pos c2] at h1; cases h1
      rw [if_neg c2] at h1
      cases c3 : r.any badX with
      | true => rw [c3] at h1; simp at h1
      | false =>
        rw [c3] at h1
        simp only [Bool.false_eq_true, if_false] at h1
        intro k hk
        cases k with
        | zero => exact ⟨by show 0 ≤ p; omega, by show p ≤ 1000; omega, by show r.length = n0; omega, any_bad.1 c3⟩
        | succ k => simpa [List.getD_eq_getElem?_getD] using ih.1 h1 k (by simpa using hk)
    · intro h1
      have h0 := h1 0 (by simp)
      obtain ⟨a1, a2, a3, a4⟩ : OkRow n0 p r := h0
      rw [if_neg (by omega), if_neg (by omega), any_bad.2 a4]
      simp only [Bool.false_eq_true, if_false]
      refine ih.2 fun k hk => ?_
      simpa [List.getD_eq_getElem?_getD] using h1 (k + 1) (by simpa using hk)
theorem wrF_zero {zs : List Int} {zss : List (List Int)} : wrF zs zss = 0 ↔ OkB zs zss := by
  unfold wrF OkB
  by_cases c1 : zs.length ≠ zss.length
  · rw [if_pos c1]
    exact ⟨fun h => absurd h (by decide), fun h => absurd h.1 c1⟩
  rw [if_neg c1]
  by_cases c2 : zs.length < 1 ∨ 8 < zs.length
  · rw [if_pos c2]
    exact ⟨fun h => absurd h (by decide), fun h => by omega⟩
  rw [if_neg c2, wrL_zero (by omega)]
  exact ⟨fun h => ⟨by omega, by omega, by omega, h⟩, fun h => h.2.2.2⟩
theorem wrL_two {n0 : Nat} : ∀ {zs : List Int} {zss : List (List Int)}, (∀ k, k < zss.length → (zss.getD k []).length = n0) → wrL n0 zs zss = 0 ∨ wrL n0 zs zss = 2
  | [], _, _ => by simp [wrL]
  | p :: ps, [], h => by simp [wrL]
  | p :: ps, r :: rs, h => by
    have ih := wrL_two (n0 := n0) (zs := ps) (zss := rs) (fun k hk => by simpa [List.getD_eq_getElem?_getD] using h (k + 1) (by simpa using hk))
    have h0 : r.length = n0 := h 0 (by simp)
    rw [wrL]
    by_cases c1 : p < 0 ∨ 1000 < p
    · rw [if_pos c1]; exact .inr rfl
    rw [if_neg c1, if_neg (by omega)]
    by_cases c3 : r.any badX = true
    · rw [if_pos c3]; exact .inr rfl
    · rw [if_neg c3]; exact ih
theorem wrF_two {zs : List Int} {zss : List (List Int)} (h1 : zs.length = zss.length) (h : ∀ k, k < zss.length → (zss.getD k []).length = (zss.getD 0 []).length) : wrF zs zss = 0 ∨ wrF zs zss = 2 := by
  unfold wrF
  rw [if_neg (by omega)]
  by_cases c2 : zs.length < 1 ∨ 8 < zs.length
  · rw [if_pos c2]; exact .inr rfl
  · rw [if_neg c2]; exact wrL_two h
theorem wrL_step {n0 : Nat} {zs : List Int} {zss : List (List Int)} {k : Nat} (h : zs.length = zss.length) (hk : k < zs.length) : wrL n0 (zs.drop k) (zss.drop k) =
    if zs.getD k 0 < 0 ∨ 1000 < zs.getD k 0 then 2 else if (zss.getD k []).length ≠ n0 then 1 else if (zss.getD k []).any badX then 2 else wrL n0 (zs.drop (k + 1)) (zss.drop (k + 1)) := by
  rw [List.drop_eq_getElem_cons hk, List.drop_eq_getElem_cons (show k < zss.length by omega), wrL]
  rw [List.getD_eq_getElem?_getD, List.getElem?_eq_getElem hk, List.getD_eq_getElem?_getD, List.getElem?_eq_getElem (show k < zss.length by omega)]
  rfl
set_option maxHeartbeats 1600000 in
theorem wrong_any (v v2 : Value) (zs : List Int) (zss : List (List Int)) (w : World) (h : Rd w v zs) (h2 : RdM w v2 zss) : Calls Try.prog 11 #[v, v2] w fun e w' => e = .returned (.int .i64 (wrF zs zss : Nat)) ∧ ∃ q, w' = w.drewN q := by
  obtain ⟨a, cap, rfl, hlc, hcm, hop⟩ := h.open
  obtain ⟨a2, cap2, rfl, hlc2, hcm2, hop2⟩ := h2.open
  have HOP := Lib.hid hop
  have HOP2 := Lib.hid hop2
  clear h h2 hop hop2
  by_cases c1 : zs.length = zss.length
  · by_cases c2 : zs.length < 1 ∨ 8 < zs.length
    · have HW : Hid (wrF zs zss = 2) := by show _ = _; unfold wrF; rw [if_neg (by omega), if_pos c2]
      generalize zss.length = n2 at *
      generalize hn : zs.length = n1 at *
      have HN := Lib.hid hn
      clear hn
      subst c1
      by_cases c3 : n1 < 1
      · go_enter Try.func11, Try.ntmps11
        go_wp2_with fail
        go_ret
        exact ⟨by rw [HW.out]; rfl, 0, rfl⟩
      · go_enter Try.func11, Try.ntmps11
        go_wp2_with fail
        go_ret
        exact ⟨by rw [HW.out]; rfl, 0, rfl⟩
    · have HW : Hid (wrF zs zss = wrL (zss.getD 0 []).length zs zss) := by show _ = _; unfold wrF; rw [if_neg (by omega), if_neg c2]
      obtain ⟨b, off, rfl, hbl, hc⟩ := HOP.out 0 (by omega)
      obtain ⟨b2, off2, U, rfl, hbl2, hc2⟩ := HOP2.out (by omega)
      have HC := Lib.hid hc
      have HC2 := Lib.hid hc2
      have HST := Lib.hid (fun (n0 k : Nat) hk => wrL_step (n0 := n0) (k := k) c1 hk)
      rw [← c1] at HC2 hlc2 ⊢
      obtain ⟨n, hn⟩ : ∃ n, zs.length = n := ⟨_, rfl⟩
      rw [hn] at HC HC2 hlc hlc2 c2 HST ⊢
      have HLN := Lib.hid hn
      have HLN2 := Lib.hid (c1.symm.trans hn)
      clear hc hc2 c1 hn
      have d0 := (HC2.out 0 (by omega)).1
      rw [Nat.add_zero] at d0
      obtain ⟨a0, q0, hu0, hq0, hq00, hop0⟩ := (HC2.out 0 (by omega)).2.open
      rw [hu0] at d0
      have D0 := Lib.hid d0
      clear d0
      generalize (zss.getD 0 []).length = n0 at *
      clear hop0 hu0 HOP HOP2
      go_enter Try.func11, Try.ntmps11
      go_wp2_with fail
      go_loopw [24, 5, 6, 8] (fun iv _ _ _ wr => ∃ (i q : Nat), i ≤ n ∧ iv = .int .i64 i ∧ wr = w.drewN q ∧ Hid (wrF zs zss = wrL n0 (zs.drop i) (zss.drop i))) (fun iv _ _ _ _ => n - (intOf iv).toNat)
      case atStart => exact ⟨0, 0, Nat.zero_le _, rfl, rfl, HW⟩
      case round =>
        obtain ⟨i, q, hi, rfl, rfl, hw⟩ := hrel
        by_cases hlt : i < n
        · have dp : (w.drewN q).cell? ⟨b, off + i, none⟩ = _ := HC.out i hlt
          have d0 : (w.drewN q).cell? ⟨b2, off2, none⟩ = _ := D0.out
          have dr : (w.drewN q).cell? ⟨b2, off2 + i, none⟩ = _ := (HC2.out i hlt).1
          obtain ⟨ai, qi, hui, hqi, hqii, hopi⟩ := (HC2.out i hlt).2.open
          rw [hui] at dr
          have HOI := Lib.hid hopi
          have hw2 := hw.out
          rw [HST.out n0 i hlt] at hw2
          clear hopi hui hw
          generalize hr : zss.getD i [] = r at *
          generalize zs.getD i 0 = x at *
          have HR := Lib.hid hr
          clear hr
          by_cases k1 : x < 0 ∨ 1000 < x
          · rw [if_pos k1] at hw2
            have HW2 := Lib.hid hw2
            clear hw2
            rcases k1 with k1 | k1
            · have f1 : decide (x < 0) = true := decide_eq_true k1
              go_wp2_with fail
              go_ret
              exact ⟨by rw [HW2.out]; rfl, _, rfl⟩
            · have f1 : decide (x < 0) = false := decide_eq_false (by omega)
              have f2 : decide (1000 < x) = true := decide_eq_true (by omega)
              go_wp2_with fail
              go_ret
              exact ⟨by rw [HW2.out]; rfl, _, rfl⟩
          · rw [if_neg k1] at hw2
            have f1 : decide (x < 0) = false := decide_eq_false (by omega)
            have f2 : decide (1000 < x) = false := decide_eq_false (by omega)
            have g1 : ((n : Int) ≤ (i : Int)) = False := eq_false (by omega)
            have g2 : (n ≤ i) = False := eq_false (by omega)
            have g3 : (n = 0) = False := eq_false (by omega)
            have g4 : ((n : Int) ≤ 0) = False := eq_false (by omega)
            have dr0 : w.cell? ⟨b2, off2 + i, none⟩ = _ := dr
            have d00 : w.cell? ⟨b2, off2, none⟩ = _ := d0
            by_cases k2 : r.length ≠ n0
            · rw [if_pos k2] at hw2
              have HW2 := Lib.hid hw2
              clear hw2 k1
              go_wp2_with fail
              go_quiet (fail)
              go_wp2_with fail
              go_ret
              exact ⟨by rw [HW2.out]; rfl, _, World.drewN_drewN _ _ _⟩
            · rw [if_neg k2] at hw2
              have HW2 := Lib.hid hw2
              have hrn : r.length = n0 := by omega
              rw [hrn] at hqi dr dr0 HOI
              have HRN := Lib.hid hrn
              clear hw2 k1 k2 hrn
              go_wp2_with fail
              go_quiet (fail)
              rw [World.drewN_drewN]
              generalize q + _ = q2
              have dr : (w.drewN q2).cell? ⟨b2, off2 + i, none⟩ = _ := dr
              go_wp2_with fail
              clear dp dr d0 f1 f2 dr0 d00 g1 g2 g3 g4
              go_loop [50, 8] (fun iv _ => ∃ m : Nat, m ≤ n0 ∧ iv = .int .i64 m ∧ Hid (∀ j, j < m → 0 ≤ r.getD j 0 ∧ r.getD j 0 ≤ 9)) (fun iv _ => n0 - (intOf iv).toNat)
              case atStart => exact ⟨0, Nat.zero_le _, rfl, fun j hj => absurd hj (Nat.not_lt_zero j)⟩
              case round =>
                obtain ⟨m, hm, rfl, hall⟩ := hrel
                by_cases hlt2 : m < n0
                · obtain ⟨b3, o3, rfl, hbl3, hc3⟩ := HOI.out m hlt2
                  have c3 : (w.drewN q2).cell? ⟨b3, o3 + m, none⟩ = _ := hc3 m hlt2
                  have HY : Hid (r.any badX = false → 0 ≤ r.getD m 0 ∧ r.getD m 0 ≤ 9) := fun h => any_bad.1 h m (by rw [HRN.out]; exact hlt2)
                  clear hc3
                  generalize hy : r.getD m 0 = y at *
                  have HYY := Lib.hid hy
                  clear hy
                  by_cases g1 : y < 0
                  · have f1 : decide (y < 0) = true := decide_eq_true g1
                    have HB : Hid (r.any badX = true) := by
                      show _ = _
                      cases hb : r.any badX with
                      | true => rfl
                      | false => have := HY.out hb; omega
                    go_wp2_with fail
                    go_ret
                    exact ⟨by rw [HW2.out, HB.out]; rfl, _, rfl⟩
                  · have f1 : decide (y < 0) = false := decide_eq_false g1
                    by_cases g2 : 9 < y
                    · have f2 : decide (9 < y) = true := decide_eq_true g2
                      have HB : Hid (r.any badX = true) := by
                        show _ = _
                        cases hb : r.any badX with
                        | true => rfl
                        | false => have := HY.out hb; omega
                      go_wp2_with fail
                      go_ret
                      exact ⟨by rw [HW2.out, HB.out]; rfl, _, rfl⟩
                    · have f2 : decide (9 < y) = false := decide_eq_false g2
                      go_wp2_with fail
                      exact ⟨⟨m + 1, by omega, by go_num, fun j hj => by
                        by_cases e : j = m
                        · subst e; rw [HYY.out]; omega
                        · exact hall.out j (by omega)⟩, by simp [intOf]; omega⟩
                · obtain rfl : m = n0 := by omega
                  have HW3 := HW2.out
                  rw [any_bad.2 (by rw [HRN.out]; exact hall.out)] at HW3
                  simp only [Bool.false_eq_true, if_false] at HW3
                  have HW4 := Lib.hid HW3
                  clear HW3
                  go_wp2_with fail
                  exact ⟨⟨i + 1, q2, by omega, by go_num, rfl, HW4⟩, by simp [intOf]; omega⟩
        · obtain rfl : i = n := by omega
          go_wp2_with fail
          go_ret
          refine ⟨?_, _, rfl⟩
          rw [hw.out, ← HLN.out, List.drop_length]
          simp [wrL]
  · have HW : Hid (wrF zs zss = 1) := by show _ = _; unfold wrF; rw [if_pos c1]
    generalize zss.length = n2 at *
    generalize zs.length = n1 at *
    go_enter Try.func11, Try.ntmps11
    go_wp2_with fail
    go_ret
    exact ⟨by rw [HW.out]; rfl, 0, rfl⟩
end Go.Proofs.Ytmhkbcfdcbbdgaa
