/- The walk of FenOnce. No condition. -/
import Derived.Test.YtkljkogcahmaaaaAl
import Derived.Test.YtkljkogcahmaaaaMap
import Derived.WalkArith
set_option linter.unusedSimpArgs false
set_option linter.unusedVariables false
namespace Go.Proofs.Ytkljkogcahmaaaa.fenOnce
open Go.RowKit Go.Proofs.Ytkljkogcahmaaaa Go.Maps
theorem drw_facts (N : Nat) : ∀ (xs : List Int) (f : Nat → Nat) (os : List Int), drw N f xs = some os → os.length = xs.length ∧ ∀ i, i < os.length → ∃ k : Nat, os.getD i 0 = k ∧ k < N ∧ f k ≠ 0 ∧ ∀ j, j < i → os.getD j 0 ≠ k
  | [], f, os, h => by
    simp only [drw, Option.some.injEq] at h
    subst h
    exact ⟨rfl, fun i hi => absurd hi (by simp)⟩
  | x :: xs, f, os, h => by
    rw [drw] at h
    by_cases hc : 0 ≤ x ∧ x < (tot f N : Int)
    · rw [if_pos hc] at h
      obtain ⟨r, hr, rfl⟩ := Option.map_eq_some_iff.1 h
      obtain ⟨h1, h2⟩ := drw_facts N xs _ r hr
      obtain ⟨p1, p2⟩ := place_at (f := f) (n := x.toNat) (N := N) (by omega)
      refine ⟨by simp [h1], fun i hi => ?_⟩
      match i, hi with
      | 0, _ => exact ⟨_, rfl, p1, by unfold AtP at p2; rw [tot] at p2; omega, fun j hj => by omega⟩
      | i + 1, hi =>
        obtain ⟨k, e1, e2, e3, e4⟩ := h2 i (by simp at hi; omega)
        unfold zap at e3
        by_cases e : k = place f x.toNat N
        · rw [if_pos e] at e3; exact absurd rfl e3
        · rw [if_neg e] at e3
          refine ⟨k, by simpa [List.getD_eq_getElem?_getD] using e1, e2, e3, fun j hj => ?_⟩
          match j, hj with
          | 0, _ =>
            show ((place f x.toNat N : Nat) : Int) ≠ k
            omega
          | j + 1, hj => simpa [List.getD_eq_getElem?_getD] using e4 j (by omega)
    · rw [if_neg hc] at h; cases h
theorem walk_bad (v v2 : Value) (zs ns : List Int) (w : World) (h : Rd w v zs) (hk : ¬ OkL zs) :
    Calls Try.prog 4 #[v, v2] w fun e w' => e = .returned (.bool true) ∧ Below w.heap.size w w' := by
  have HS := Lib.hid (fun w h => draw_bad v v2 zs w h hk)
  have HR := Lib.hid h
  clear h hk
  go_enter Try.func4, Try.ntmps4
  go_wp2_with fail
  refine (alive_any _).mono ?_
  rintro e w1 ⟨rfl, hb1⟩
  have HB1 := Lib.hid hb1
  have HR1 := Lib.hid (HR.out.below hb1 (Nat.le_refl _))
  clear hb1
  go_wp2_with fail
  refine (HS.out _ HR1.out).mono ?_
  rintro e w2 ⟨rfl, rfl⟩
  go_wp2_with fail
  go_ret
  exact ⟨rfl, HB1.out⟩
theorem _root_.Go.Proofs.Ytkljkogcahmaaaa.MB.congr {w : World} {b n : Nat} {S S' : Int → Bool} (h : MB w b n S) (he : ∀ z, S z = S' z) : MB w b n S' := by
  rw [show S' = S from funext fun z => (he z).symm]; exact h
set_option maxHeartbeats 1600000 in
theorem walk_ok (v v2 : Value) (zs ns : List Int) (w : World) (h : Rd w v zs) (h2 : Rd w v2 ns) (hk : OkL zs) (hl2 : ns.length ≤ 17592186044415) :
    Calls Try.prog 4 #[v, v2] w fun e w' => e = .returned (.bool true) ∧ Below w.heap.size w w' := by
  have hmm := @run_makeMap Try.prog
  have HR := Lib.hid h
  have HN := Lib.hid h2
  have HS := Lib.hid (fun w h h2 => draw_ok v v2 zs ns w h h2 hk hl2)
  have HK := Lib.hid hk
  obtain ⟨a, cap, rfl, hlc, hcm, hop⟩ := h.open
  obtain ⟨a2, cap2, rfl, hlc2, hcm2, -⟩ := h2.open
  have HOP := Lib.hid hop
  clear h h2 hk hop
  go_enter Try.func4, Try.ntmps4
  go_wp2_with fail
  refine (alive_any _).mono ?_
  rintro e w1 ⟨rfl, hb1⟩
  have HB1 := Lib.hid hb1
  have HR1 := Lib.hid (HR.out.below hb1 (Nat.le_refl _))
  have HN1 := Lib.hid (HN.out.below hb1 (Nat.le_refl _))
  clear hb1
  go_wp2_with fail
  refine (HS.out _ HR1.out HN1.out).mono ?_
  rintro e w2 ⟨hb2, hp⟩
  have HB2 := Lib.hid (HB1.out.trans (hb2.mono HB1.out.size))
  clear hb2
  unfold DrawPost at hp
  cases hd : drw zs.length (nd zs) ns with
  | none =>
    rw [hd] at hp
    simp only at hp
    subst hp
    clear hd
    go_wp2_with fail
    go_ret
    exact ⟨rfl, HB2.out⟩
  | some os =>
    rw [hd] at hp
    obtain ⟨u, rfl, hu⟩ := hp
    obtain ⟨hlen, hf⟩ := drw_facts _ _ _ _ hd
    have HF := Lib.hid hf
    obtain ⟨a3, cap3, rfl, hlc3, hcm3, hop3⟩ := hu.open
    have HOP3 := Lib.hid hop3
    rw [hlen] at hlc3 HF HOP3 ⊢
    clear hd hf hu hop3
    have hcm4 : ns.length ≤ 9223372036854775807 := by omega
    go_wp2_with fail
    go_loopw [26, 9] (fun iv b wr => ∃ i : Nat, i ≤ ns.length ∧ iv = .int .i64 i ∧ Below w2.heap.size w2 wr ∧ MB wr w2.heap.size i (fun x => decide (∃ j, j < i ∧ os.getD j 0 = x))) (fun iv _ _ => ns.length - (intOf iv).toNat)
    case atStart =>
      refine ⟨0, Nat.zero_le _, rfl, (Below.refl _ _).alloc (Nat.le_refl _) _, ?_⟩
      have := MB.made w2
      simpa using this
    case round =>
      obtain ⟨i, hi, rfl, hbel, hmb⟩ := hrel
      by_cases hlt : i < ns.length
      · obtain ⟨k, hk1, hk2, hk3, hk4⟩ := HF.out i hlt
        obtain ⟨b3, o3, rfl, hbl3, hc3⟩ := HOP3.out i hlt
        have c3 := (World.cell?_of_block (hbel.block b3 hbl3)).trans (hc3 i hlt)
        rw [hk1] at c3
        obtain ⟨b, o, rfl, hbl, hc⟩ := HOP.out k hk2
        have cw := (World.cell?_of_block ((HB2.out.trans (hbel.mono HB2.out.size)).block b hbl)).trans (hc k hk2)
        rw [HK.out.nd hk2] at cw
        have hkl := HK.out.1
        have hwf : (Lit.int .i64 (k : Int)).wf = true := Go.WalkArith.wf_i64 (by omega)
        have hlk := hmb.look hwf
        have hno : decide (∃ j, j < i ∧ os.getD j 0 = (k : Int)) = false := decide_eq_false (fun ⟨j, h1, h2⟩ => hk4 j h1 h2)
        rw [hno] at hlk
        obtain ⟨D, hD, hS⟩ := hmb
        have HS2 := Lib.hid hS
        have hIs := Lib.hid hD.isMap
        have hkey : keyOf Try.prog 3 (.int .i64 (k : Int)) = some (.int .i64 (k : Int)) := keyOf_int_mk Try.underlying3 hwf
        have f1 : decide ((zs.length : Int) ≤ k) = false := decide_eq_false (by omega)
        have f2 : decide (zs.length ≤ k) = false := decide_eq_false (by omega)
        have hnz : ((nd zs k : Int) == 0) = false := by rw [beq_eq_false_iff_ne]; omega
        have HK1 := Lib.hid hk1
        have HBE := Lib.hid hbel
        have hnn : i < maxLen := by unfold maxLen; omega
        clear hS hc3 hc hno hwf hk4 hk1 hbel
        generalize nd zs k = x at *
        go_wp2_with (first
          | (at_mapUpdate; refine wpList_mapUpdate_own _ rfl _ _ _ 32 rfl 3 4 key3 Try.underlying32 (plainElem Try.prog 4) w2.heap.size i D rfl hD hnn _ _ _ rfl rfl hkey _ [] (plainElem_bool Try.underlying4 true) ?_; intro w3 hown3 hgrow3)
          | fail)
        have hb3 : Below w2.heap.size w2 w3 := HBE.out.grown hgrow3 HBE.out.size (fun k hk => by cases hk; exact Nat.le_refl _)
        have hm3 := (MB.put hIs.out HS2.out hown3).congr (S' := fun x => decide (∃ j, j < i + 1 ∧ os.getD j 0 = x)) (fun z => by
          by_cases e : z = (k : Int)
          · rw [if_pos e]
            exact (decide_eq_true ⟨i, by omega, by rw [HK1.out, e]⟩).symm
          · rw [if_neg e]
            by_cases e2 : ∃ j, j < i ∧ os.getD j 0 = z
            · obtain ⟨j, h1, h2⟩ := e2
              rw [decide_eq_true ⟨j, h1, h2⟩, decide_eq_true ⟨j, by omega, h2⟩]
            · rw [decide_eq_false e2, decide_eq_false (fun ⟨j, h1, h2⟩ => by
                rcases Nat.lt_or_ge j i with h | h
                · exact e2 ⟨j, h, h2⟩
                · rw [show j = i by omega, HK1.out] at h2; exact e h2.symm)])
        exact ⟨⟨i + 1, by omega, by go_num, hb3, hm3⟩, by simp [intOf]; omega⟩
      · obtain rfl : i = ns.length := by omega
        have HBE := Lib.hid (HB2.out.trans (hbel.mono HB2.out.size))
        clear hbel hmb
        go_wp2_with fail
        go_ret
        exact ⟨by simp, HBE.out⟩
theorem walk (a0 : Option Addr) (len0 cap0 : Nat) (z0 : List Int) (a1 : Option Addr) (len1 cap1 : Nat) (z1 : List Int) (w : World) (w0 : IsRow .i64 w a0 len0 cap0 z0) (r0 : len0 * 8 ≤ 140737488351232) (w1 : IsRow .i64 w a1 len1 cap1 z1) (r1 : len1 * 8 ≤ 140737488351232) :
    Calls Try.prog 4 #[.slice a0 len0 cap0, .slice a1 len1 cap1] w fun e w' => e = .returned (.bool true) ∧ Below w.heap.size w w' := by
  by_cases h : OkL (z0.take len0)
  · exact walk_ok _ _ _ _ w w0.rd.1 w1.rd.1 h (by rw [List.length_take]; omega)
  · exact walk_bad _ _ _ [] w w0.rd.1 h
end Go.Proofs.Ytkljkogcahmaaaa.fenOnce
