/- The walk of ChainStays. No condition. -/
import Derived.Test.YtidnmdfpnmahpaaAl
import Derived.Test.YtidnmdfpnmahpaaStatAll
import Derived.Test.YtidnmdfpnmahpaaMatIn
set_option linter.unusedSimpArgs false
set_option linter.unusedVariables false
set_option maxRecDepth 20000
namespace Go.Proofs.Ytidnmdfpnmahpaa.chainStays
open Go.RowKit Go.Proofs.Ytidnmdfpnmahpaa
theorem run (a : Option Addr) (n c : Nat) (M : List (List Int)) (w : World) (h : RdM w (.slice a n c) M) (hg : Good n M) (hw : wholeF (posM M) n = true) :
    Calls Try.prog 3 #[.slice a n c] w fun e w' => e = .returned (.bool true) ∧ Below w.heap.size w w' := by
  have HRE : Hid (∀ X, Below w.heap.size w X → Calls Try.prog 9 #[.slice a n c] X fun e w' => Below X.heap.size X w' ∧ ∃ g cap, e = .returned (.tuple #[.slice (some ⟨g, 0, none⟩) n cap, .int .i64 0]) ∧ Rd w' (.slice (some ⟨g, 0, none⟩) n cap) (castN (restN M n))) := fun X hX => rest_run a n c M X (h.below hX (Nat.le_refl _)) hg hw
  have HST : Hid (∀ X g cap, Below w.heap.size w X → Rd X (.slice (some ⟨g, 0, none⟩) n cap) (castN (restN M n)) → Calls Try.prog 10 #[.slice a n c, .slice (some ⟨g, 0, none⟩) n cap] X fun e w' => e = .returned (.bool true) ∧ Below X.heap.size X w') := fun X g cap hX hr =>
    sstays_run a _ n c cap M (restN M n) X (h.below hX (Nat.le_refl _)) hg hr (fun i hi => ⟨rest_pos hg hw i hi, restN_bd hg i hi⟩) (rest_one hg hw) (fun i hi => rest_flow hg i hi)
  clear h hg hw
  generalize restN M n = R at *
  go_enter Try.func3, Try.ntmps3
  go_wp2_with fail
  refine (alive_any w).mono ?_
  rintro e w1 ⟨rfl, hb1⟩
  have HB1 := Lib.hid hb1
  clear hb1
  go_wp2_with fail
  refine (HRE.out w1 HB1.out).mono ?_
  rintro e w2 ⟨hb2, g, cap, rfl, hr2⟩
  have HB2 := Lib.hid (HB1.out.trans (hb2.mono HB1.out.size))
  have HS := Lib.hid (HST.out w2 g cap HB2.out hr2)
  clear hb2 hr2
  go_wp2_with fail
  refine HS.out.mono ?_
  rintro e w3 ⟨rfl, hb3⟩
  have HB3 := Lib.hid (HB2.out.trans (hb3.mono HB2.out.size))
  clear hb3
  go_wp2_with fail
  go_ret
  exact ⟨rfl, HB3.out⟩
theorem none' (a : Option Addr) (n c : Nat) (M : List (List Int)) (w : World) (h : RdM w (.slice a n c) M) (hw : wrongN M ≠ 0 ∨ (Good n M ∧ wholeF (posM M) n = false)) :
    Calls Try.prog 3 #[.slice a n c] w fun e w' => e = .returned (.bool true) ∧ Below w.heap.size w w' := by
  have HRE : Hid (∀ X, Below w.heap.size w X → Calls Try.prog 9 #[.slice a n c] X fun e w' => ∃ er : Nat, er ≠ 0 ∧ e = .returned (.tuple #[.slice none 0 0, .int .i64 er]) ∧ Below X.heap.size X w') := fun X hX => by
    rcases hw with hw | ⟨hg, hw⟩
    · exact (rest_err a n c M X (h.below hX (Nat.le_refl _)) hw).mono fun e w' ⟨h1, h2⟩ => ⟨_, hw, h1, h2 ▸ Below.refl _ _⟩
    · exact (rest_none a n c M X (h.below hX (Nat.le_refl _)) hg hw).mono fun e w' ⟨h1, h2⟩ => ⟨3, by decide, h1, h2⟩
  clear h hw
  go_enter Try.func3, Try.ntmps3
  go_wp2_with fail
  refine (alive_any w).mono ?_
  rintro e w1 ⟨rfl, hb1⟩
  have HB1 := Lib.hid hb1
  clear hb1
  go_wp2_with fail
  refine (HRE.out w1 HB1.out).mono ?_
  rintro e w2 ⟨er, hne, rfl, hb2⟩
  have HB2 := Lib.hid (HB1.out.trans (hb2.mono HB1.out.size))
  have he : ((er : Int) != 0) = true := by rw [bne_iff_ne]; omega
  clear hb2 hne
  go_wp2_with fail
  go_ret
  exact ⟨by simp, HB2.out⟩
theorem walk (x0 : Option Addr × Nat × Nat × List (List Int)) (w : World) (h : RdM w (.slice x0.1 x0.2.1 x0.2.2.1) x0.2.2.2) :
    Calls Try.prog 3 #[.slice x0.1 x0.2.1 x0.2.2.1] w fun e w' => e = .returned (.bool true) ∧ Below w.heap.size w w' := by
  obtain ⟨a, n, c, M⟩ := x0
  simp only at h ⊢
  obtain ⟨hl, hc1, hc2⟩ := h.lenEq
  by_cases hw : wrongN M = 0
  · have hg := (wrong_good M).1 hw
    rw [hl] at hg
    cases hwh : wholeF (posM M) n with
    | true => exact run a n c M w h hg hwh
    | false => exact none' a n c M w h (.inr ⟨hg, hwh⟩)
  · exact none' a n c M w h (.inl hw)
end Go.Proofs.Ytidnmdfpnmahpaa.chainStays
