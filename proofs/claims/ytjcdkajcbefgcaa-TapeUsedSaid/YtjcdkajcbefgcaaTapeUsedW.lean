/- The walk of TapeUsed. No condition. -/
import Derived.Test.YtjcdkajcbefgcaaAl
import Derived.Test.YtjcdkajcbefgcaaConcat
set_option linter.unusedSimpArgs false
set_option linter.unusedVariables false
namespace Go.Proofs.Ytjcdkajcbefgcaa.tapeUsed
open Go.RowKit Go.Proofs.Ytjcdkajcbefgcaa
set_option maxHeartbeats 800000 in
theorem walk (a : Option Addr) (len cap : Nat) (z : List Bool) (n : Int) (a2 : Option Addr) (len2 cap2 : Nat) (z2 : List Bool) (w : World)
    (h : IsRowB w a len cap z) (hr : len ≤ 140737488351232) (w1 : (Lit.int .i64 n).wf = true) (h2 : IsRowB w a2 len2 cap2 z2) (hr2 : len2 ≤ 140737488351232) :
    Calls Try.prog 5 #[.slice a len cap, .int .i64 n, .slice a2 len2 cap2] w fun e w' => e = .returned (.bool true) ∧ Below w.heap.size w w' := by
  have hrd := h.rd
  have hrd2 := h2.rd
  clear w1
  have hnil : a = none → len = 0 ∧ cap = 0 := fun e => by
    rcases h with ⟨_, h1, h2, _⟩ | ⟨x, h1, _⟩
    · exact ⟨h1, h2⟩
    · rw [e] at h1; cases h1
  have hnil2 : a2 = none → len2 = 0 ∧ cap2 = 0 := fun e => by
    rcases h2 with ⟨_, h1, h2, _⟩ | ⟨x, h1, _⟩
    · exact ⟨h1, h2⟩
    · rw [e] at h1; cases h1
  have HN := Lib.hid hnil
  have HN2 := Lib.hid hnil2
  clear hnil hnil2
  have HRD := Lib.hid hrd
  have HRD2 := Lib.hid hrd2
  obtain ⟨l1, m1, m1', -⟩ := hrd.app
  clear h h2 hrd hrd2
  have HBel := Lib.hid (fun v z w h => below_any v z n w h)
  have HPv := Lib.hid (fun w h => HBel.out (.slice a len cap) z w h)
  have HIz := Lib.hid (fun q h => belZ_in (n := n) (t := z) (q := q) h)
  generalize belZ n z = o at *
  cases o with
  | none =>
    go_enter Try.func5, Try.ntmps5
    go_wp2_with fail
    refine (alive_any _).mono ?_
    rintro e w1 ⟨rfl, hb1⟩
    go_wp2_with fail
    refine (HPv.out _ (HRD.out.below hb1 (Nat.le_refl _))).mono ?_
    rintro e w2 ⟨⟨c, hc0, hc1, hc2, rfl⟩, rfl⟩
    have hc3 : (c != 0) = true := by rw [bne_iff_ne]; exact hc0
    go_wp2_with fail
    go_ret
    exact ⟨by simp, hb1⟩
  | some q =>
    obtain ⟨q1, u⟩ := q
    obtain ⟨n1, n2, n3, n4, n5⟩ := HIz.out _ rfl
    have HM2 := Lib.hid (n5 z2)
    simp only at n3 n4
    clear HIz n5
    go_enter Try.func5, Try.ntmps5
    go_wp2_with fail
    refine (alive_any _).mono ?_
    rintro e w1 ⟨rfl, hb1⟩
    go_wp2_with fail
    refine (HPv.out _ (HRD.out.below hb1 (Nat.le_refl _))).mono ?_
    rintro e w2 ⟨rfl, rfl⟩
    have HB1 := Lib.hid hb1
    clear hb1 HPv
    go_wp2_with fail
    have hB := HB1.out
    have ht := ((HRD.out.below hB (Nat.le_refl _)).take (k := u) (by omega)).alloc (.cells #[.slice a u cap, .slice a2 len2 cap2] 27)
    have ht2 := (HRD2.out.below hB (Nat.le_refl _)).alloc (.cells #[.slice a u cap, .slice a2 len2 cap2] 27)
    have hc1 : (w1.alloc (.cells #[.slice a u cap, .slice a2 len2 cap2] 27)).cell? ⟨w1.heap.size, 0, none⟩ = some (.slice a u cap) := cell_of_row _ _ 0 _ _ _ (heap_alloc_new w1 _)
    have hc2 : (w1.alloc (.cells #[.slice a u cap, .slice a2 len2 cap2] 27)).cell? ⟨w1.heap.size, 1, none⟩ = some (.slice a2 len2 cap2) := cell_of_row _ _ 1 _ _ _ (heap_alloc_new w1 _)
    refine (concatb_any w1.heap.size u cap len2 cap2 a a2 _ _ _ ht ht2 (fun e => by have := HN.out e; omega) HN2.out hc1 hc2 (by simp) (by omega)).mono ?_
    rintro e w3 ⟨hb3, v, rfl, hrv⟩
    have HB3 := Lib.hid (hB.trans (((Below.refl w1.heap.size w1).alloc (Nat.le_refl _) _).trans (hb3.mono (by simp)) |>.mono hB.size))
    have hpl := HBel.out v _ w3 hrv
    rw [HM2.out] at hpl
    have HPL := Lib.hid hpl
    clear hB ht ht2 hc1 hc2 hb3 hrv hpl
    go_wp2_with fail
    refine HPL.out.mono ?_
    rintro e w4 ⟨rfl, rfl⟩
    go_wp2_with fail
    go_ret
    exact ⟨by simp, HB3.out⟩
end Go.Proofs.Ytjcdkajcbefgcaa.tapeUsed
