/- The walk of ChainJust. No condition. -/
import Derived.Test.YtidnmdfpnmahpaaAl
import Derived.Test.YtidnmdfpnmahpaaJustL
import Derived.Test.YtidnmdfpnmahpaaMatIn
set_option linter.unusedSimpArgs false
set_option linter.unusedVariables false
namespace Go.Proofs.Ytidnmdfpnmahpaa.chainJust
open Go.RowKit Go.Proofs.Ytidnmdfpnmahpaa
set_option maxHeartbeats 1600000 in
set_option maxRecDepth 20000 in
theorem run (a : Option Addr) (n c f : Nat) (M : List (List Int)) (w : World) (h : RdM w (.slice a n c) M) (hg : Good n M) (hf : f < n) :
    Calls Try.prog 5 #[.slice a n c, .int .i64 f] w fun e w' => e = .returned (.bool true) ∧ Below w.heap.size w w' := by
  obtain ⟨i3, hi3, hz0, hz1, hz2⟩ := info_parts Try.info3t
  obtain ⟨hl, hc1, hc2⟩ := h.lenEq
  have h1n := hg.2.1
  have h5n := hg.2.2.1
  have HG := Lib.hid hg
  have HM := Lib.hid h
  obtain ⟨rl, rx, rs⟩ := hg.2.2.2 _ (getD_mem M f [] (by omega))
  have hsb := (sum_bd45 hg f hf).2
  have HGO : Hid (∀ (m : Nat) (S : Nat), sumL (M.getD f []) = S → m < S → goF M f [(m : Int)] = some [(pickF (M.getD f []) m : Int)]) := fun m S hS hm => goF_one M f m S hS (by omega)
  obtain ⟨b, off, a', c', rfl, hb, cr0, hr0⟩ := h.row hf
  obtain ⟨q, hq⟩ : ∃ q, M.getD f [] = q := ⟨_, rfl⟩
  rw [hq] at cr0 hr0 rl rx rs hsb HGO
  rw [rl] at cr0 hr0
  obtain ⟨S, hS⟩ : ∃ S : Nat, sumL q = S := ⟨(sumL q).toNat, by omega⟩
  have HS := Lib.hid hS
  have HPL : Hid (∀ m : Nat, m < S → pickF q (m : Int) < n) := fun m hm => by
    rcases pickF_lt q m (by omega) with h | h
    · omega
    · rw [h] at rl; simp at rl; omega
  have HTS : Hid (∀ m : Nat, pickF q (m : Int) < n → (tabC q n m).set (pickF q m) ((cp q m (pickF q m) : Nat) + 1 : Int) = tabC q n (m + 1)) := fun m hm => tabC_set q n m hm
  have HTG : Hid (∀ m j, j < n → (tabC q n m).getD j 0 = (cp q m j : Nat)) := fun m j hj => tabC_get q n m j hj
  have HTA : Hid (tabC q n S = q) := tabC_all q n S rl (fun x hx => (rx x hx).1) hS
  have HTZ := Lib.hid (tabC_zero q n)
  have HCP : Hid (∀ m j, cp q m j ≤ m) := fun m j => by
    show cp q m j ≤ m
    induction m with
    | zero => exact Nat.le_refl _
    | succ m ih => rw [cp_step]; split <;> omega
  have HRX := Lib.hid rx
  have HR := Lib.hid hr0
  have HCR := Lib.hid cr0
  have hw0 : wrongN M = 0 := (wrong_good M).2 (by rw [hl]; exact hg)
  have HWR : Hid (∀ X, Below w.heap.size w X → Calls Try.prog 12 #[.slice (some ⟨b, off, none⟩) n c] X fun e w' => e = .returned (.int .i64 0) ∧ X = w') := fun X hX => by
    have := wrong_any _ n c M X (h.below hX (Nat.le_refl _))
    rw [hw0] at this
    exact this
  have hS45 : S ≤ 45 := by omega
  have f0 : decide ((f : Int) < 0) = false := decide_eq_false (by omega)
  have f1 : decide ((n : Int) ≤ (f : Int)) = false := decide_eq_false (by omega)
  have f1' : decide (n ≤ f) = false := decide_eq_false (by omega)
  have hfI : (f : Int) < (n : Int) := by omega
  clear h hg hl rl rx rs hsb hq cr0 hr0 hS hw0
  go_enter Try.func5, Try.ntmps5
  go_wp2_with fail
  refine (alive_any w).mono ?_
  rintro e w1 ⟨rfl, hb1⟩
  have HB1 := Lib.hid hb1
  clear hb1
  go_wp2_with fail
  refine (HWR.out w1 HB1.out).mono ?_
  rintro e w' ⟨rfl, rfl⟩
  go_wp2_with (refine wpList_make_full _ rfl _ _ 24 rfl w1.heap.size 3 i3 (.int .i64 0) 1 Try.underlying24 hi3 hz0 hz1 .i64 .i64 _ _ n rfl rfl rfl rfl ?b2 ?b3 (Nat.le_refl _) ?_)
  case b2 => rw [hz2]; omega
  case b3 => unfold maxLen; omega
  intro w2 hown hgr
  have hB2 : Below w1.heap.size w1 w2 := (Below.refl _ _).grown hgr (Nat.le_refl _) (fun k hk => by cases hk)
  rw [zeros_eq, HTZ.out] at hown
  have HO := Lib.hid (own_base hown HB1.out.size)
  have HB2 := Lib.hid (HB1.out.trans (hB2.mono HB1.out.size))
  obtain ⟨g, hgg⟩ : ∃ g, w1.heap.size = g := ⟨_, rfl⟩
  have hgw : w.heap.size ≤ g := by rw [← hgg]; exact HB1.out.size
  rw [hgg] at HO ⊢
  clear hown hgr hB2 hgg
  have cr := (World.cell?_of_block (HB2.out.block b hb)).trans HCR.out
  have HTO := Lib.hid (total_any a' n c' q w2 (HR.out.below HB2.out (Nat.le_refl _)) (fun x hx => by have := HRX.out x hx; omega) (by omega))
  rw [HS.out] at HTO
  go_wp2_with fail
  refine HTO.out.mono ?_
  rintro e w' ⟨rfl, rfl⟩
  go_wp2_with fail
  go_loopw [32] (fun mv wr => ∃ m : Nat, m ≤ S ∧ mv = .int .i64 m ∧ Hid (wr.ownsRow w.heap.size 3 1 (.slice (some ⟨g, 0, none⟩) n n) n ((tabC q n m).map (Value.int .i64))) ∧ Hid (Below w.heap.size w wr)) (fun mv _ => S - (intOf mv).toNat)
  case atStart => exact ⟨0, Nat.zero_le _, rfl, HO.out, HB2.out⟩
  case round =>
    clear HO HB2 cr
    obtain ⟨m, hm, rfl, HO, HB⟩ := hrel
    by_cases hml : m < S
    · have hmI : (m : Int) < (S : Int) := by omega
      have hpl := HPL.out m hml
      have hgo := HGO.out m S HS.out hml
      have HB' : Hid (Below w.heap.size w (wr.alloc (.cells #[.int .i64 m] 3))) := HB.out.alloc HB.out.size _
      have hns := Rd.built wr [(m : Int)] #[.int .i64 m] 3 rfl 1 rfl (by decide)
      have HGR := Lib.hid (go_run (some ⟨b, off, none⟩) (some ⟨wr.heap.size, 0, none⟩) n c 1 1 f M [(m : Int)] _ (HM.out.below HB'.out (Nat.le_refl _)) hns HG.out hf (by decide))
      rw [hgo] at HGR
      have HTSm := Lib.hid (HTS.out m hpl)
      have HTGm := Lib.hid (HTG.out m (pickF q m) hpl)
      have hcp := HCP.out m (pickF q m)
      have HO' := Lib.hid (HO.out.alloc (.cells #[.int .i64 m] 3))
      clear hgo hns
      generalize pickF q (m : Int) = p at *
      generalize cp q m p = t at *
      have hpI : (p : Int) < (n : Int) := by omega
      have q0 : decide ((p : Int) < 0) = false := decide_eq_false (by omega)
      have q1 : decide ((n : Int) ≤ (p : Int)) = false := decide_eq_false (by omega)
      have q1' : decide (n ≤ p) = false := decide_eq_false (by omega)
      go_wp2_with fail
      refine HGR.out.mono ?_
      rintro e w5 ⟨hb5, a5, c5, rfl, hr5⟩
      have HB5 := Lib.hid (HB'.out.trans (hb5.mono HB'.out.size))
      have ho5 := own_below HO'.out hb5 (Nat.le_refl _)
      obtain ⟨b5, o5, rfl, -, hc5⟩ := hr5.at (by show 0 < 1; decide)
      have c5' := hc5 0 (by show 0 < 1; decide)
      rw [Nat.add_zero] at c5'
      have cg := own_get ho5 p hpl
      rw [HTGm.out] at cg
      have fg := ho5.frozenAt p
      have hon := own_set ho5 p ((t : Nat) + 1 : Int)
      rw [HTSm.out] at hon
      have HON := Lib.hid hon
      have HBN := Lib.hid (HB5.out.setCell (p := ⟨g, p, none⟩) hgw (.int .i64 ((t : Nat) + 1 : Int)))
      clear hb5 hr5 hc5 ho5 hon
      go_wp2_with fail
      exact ⟨⟨m + 1, by omega, by go_num, HON.out, HBN.out⟩, by simp [intOf]; omega⟩
    · obtain rfl : m = S := by omega
      rw [HTA.out] at HO
      have HRT := Lib.hid (Rd.own HO.out)
      have cr := (World.cell?_of_block (HB.out.block b hb)).trans HCR.out
      go_wp2_with fail
      refine (equal_any _ _ q q _ HRT.out (HR.out.below HB.out (Nat.le_refl _))).mono ?_
      rintro e w5 ⟨rfl, hb5⟩
      rw [decide_eq_true (rfl : q = q)]
      have HB5 := Lib.hid (HB.out.trans (hb5.mono HB.out.size))
      clear hb5
      go_wp2_with fail
      go_ret
      exact ⟨rfl, HB5.out⟩
theorem walk (x0 : Option Addr × Nat × Nat × List (List Int)) (a1 : Int) (w : World) (h : RdM w (.slice x0.1 x0.2.1 x0.2.2.1) x0.2.2.2) (w1 : (Lit.int .i64 a1).wf = true) :
    Calls Try.prog 5 #[.slice x0.1 x0.2.1 x0.2.2.1, .int .i64 a1] w fun e w' => e = .returned (.bool true) ∧ Below w.heap.size w w' := by
  obtain ⟨a, n, c, M⟩ := x0
  simp only at h ⊢
  obtain ⟨hl, hc1, hc2⟩ := h.lenEq
  by_cases hw : wrongN M = 0
  · have hg := (wrong_good M).1 hw
    rw [hl] at hg
    by_cases hf : 0 ≤ a1 ∧ a1 < n
    · obtain ⟨f, rfl⟩ : ∃ f : Nat, a1 = f := ⟨a1.toNat, by omega⟩
      exact run a n c f M w h hg (by omega)
    · have HWR : Hid (∀ X, Below w.heap.size w X → Calls Try.prog 12 #[.slice a n c] X fun e w' => e = .returned (.int .i64 0) ∧ X = w') := fun X hX => by
        have := wrong_any _ n c M X (h.below hX (Nat.le_refl _))
        rw [hw] at this
        exact this
      have hx : decide (a1 < 0) = true ∨ (decide (a1 < 0) = false ∧ decide ((n : Int) ≤ a1) = true) := by
        simp only [decide_eq_true_eq, decide_eq_false_iff_not]; omega
      clear h hl hw hg hf w1
      rcases hx with f1 | ⟨f1, f2⟩
      all_goals
        go_enter Try.func5, Try.ntmps5
        go_wp2_with fail
        refine (alive_any w).mono ?_
        rintro e w1 ⟨rfl, hb1⟩
        have HB1 := Lib.hid hb1
        clear hb1
        go_wp2_with fail
        refine (HWR.out w1 HB1.out).mono ?_
        rintro e w' ⟨rfl, rfl⟩
        go_wp2_with fail
        go_ret
        exact ⟨rfl, HB1.out⟩
  · have HWR : Hid (∀ X, Below w.heap.size w X → Calls Try.prog 12 #[.slice a n c] X fun e w' => e = .returned (.int .i64 (wrongN M : Nat)) ∧ X = w') := fun X hX => wrong_any _ n c M X (h.below hX (Nat.le_refl _))
    generalize wrongN M = er at *
    have he : ((er : Int) != 0) = true := by rw [bne_iff_ne]; omega
    clear h hl hw w1
    go_enter Try.func5, Try.ntmps5
    go_wp2_with fail
    refine (alive_any w).mono ?_
    rintro e w1 ⟨rfl, hb1⟩
    have HB1 := Lib.hid hb1
    clear hb1
    go_wp2_with fail
    refine (HWR.out w1 HB1.out).mono ?_
    rintro e w' ⟨rfl, rfl⟩
    go_wp2_with fail
    go_ret
    exact ⟨rfl, HB1.out⟩
end Go.Proofs.Ytidnmdfpnmahpaa.chainJust
