/- The walk of RuinTape. No condition. -/
import Derived.Test.YtkppkfbgolmonaaCount
import Derived.Test.YtkppkfbgolmonaaConcat
import Derived.Test.YtkppkfbgolmonaaLaws
set_option linter.unusedSimpArgs false
set_option linter.unusedVariables false
namespace Go.Proofs.Ytkppkfbgolmonaa.ruinTape
open Go.RowKit Go.Proofs.Ytkppkfbgolmonaa
/-- What was not played does not count. -/
theorem pl_more (top : Int) (more : List Bool) : ∀ (bs : List Bool) (has : Int) (q : Int × Nat), pl top has bs = some q → pl top has (bs.take q.2 ++ more) = some q
  | [], has, q, h => by
    rw [pl] at h
    split at h
    · rename_i he
      cases h
      cases more with
      | nil => simp [pl, he]
      | cons b t => simp [pl, he]
    · cases h
  | b :: t, has, q, h => by
    rw [pl] at h
    split at h
    · rename_i he
      cases h
      cases more with
      | nil => simp [pl, he]
      | cons b t => simp [pl, he]
    · rename_i he
      rw [Option.map_eq_some_iff] at h
      obtain ⟨q', h1, rfl⟩ := h
      have ih := pl_more top more t _ q' h1
      simp only [List.take_succ_cons, List.cons_append]
      rw [pl, if_neg he, ih]; rfl
theorem walk (top has : Int) (a : Option Addr) (len cap : Nat) (z : List Bool) (a2 : Option Addr) (len2 cap2 : Nat) (z2 : List Bool) (w : World) (w0 : (Lit.int .i64 top).wf = true) (w1 : (Lit.int .i64 has).wf = true)
    (h : IsRowB w a len cap z) (hr : len ≤ 140737488351232) (h2 : IsRowB w a2 len2 cap2 z2) (hr2 : len2 ≤ 140737488351232) :
    Calls Try.prog 7 #[.int .i64 top, .int .i64 has, .slice a len cap, .slice a2 len2 cap2] w fun e w' => e = .returned (.bool true) ∧ Below w.heap.size w w' := by
  have hrd := h.rd
  have hrd2 := h2.rd
  clear w0 w1
  have hnil : a = none → len = 0 ∧ cap = 0 := fun e => by
    rcases h with ⟨_, h1, h2, _⟩ | ⟨x, h1, _⟩
    · exact ⟨h1, h2⟩
    · rw [e] at h1; cases h1
  have hnil2 : a2 = none → len2 = 0 ∧ cap2 = 0 := fun e => by
    rcases h2 with ⟨_, h1, h2, _⟩ | ⟨x, h1, _⟩
    · exact ⟨h1, h2⟩
    · rw [e] at h1; cases h1
  have HN := Lib.hid hnil
  have HN2 := Lib.hid hnil2
  clear hnil hnil2
  have HRD := Lib.hid hrd
  have HRD2 := Lib.hid hrd2
  obtain ⟨l1, m1, m1', -⟩ := hrd.app
  clear h h2
  clear hrd hrd2
  by_cases hp : OkP top has
  · have HPlay := Lib.hid (fun v bs w hr => play_pl top has v bs w hr hp)
    have HIn := Lib.hid (fun bs q hq => pl_in (top := top) hp.1 bs has q hq)
    clear hp
    have HM := Lib.hid (fun q hq => pl_more top z2 z has q hq)
    have HPv := Lib.hid (fun w h => HPlay.out (.slice a len cap) z w h)
    have HIz := Lib.hid (HIn.out z)
    generalize pl top has z = o at *
    cases o with
    | none =>
      simp only [plv] at HPv
      go_enter Try.func7, Try.ntmps7
      go_wp2_with fail
      refine (alive_any _).mono ?_
      rintro e w1 ⟨rfl, hb1⟩
      go_wp2_with fail
      refine (HPv.out _ (HRD.out.below hb1 (Nat.le_refl _))).mono ?_
      rintro e w2 ⟨rfl, rfl⟩
      go_wp2_with fail
      go_ret
      exact ⟨by simp, hb1⟩
    | some q =>
      obtain ⟨q1, n⟩ := q
      have hn := (HIz.out _ rfl).2
      simp only at hn
      have HM2 := Lib.hid (HM.out _ rfl)
      simp only [plv] at HPv
      clear HM HIz HIn
      go_enter Try.func7, Try.ntmps7
      go_wp2_with fail
      refine (alive_any _).mono ?_
      rintro e w1 ⟨rfl, hb1⟩
      go_wp2_with fail
      refine (HPv.out _ (HRD.out.below hb1 (Nat.le_refl _))).mono ?_
      rintro e w2 ⟨rfl, rfl⟩
      have HB1 := Lib.hid hb1
      clear hb1 HPv
      go_wp2_with fail
      have hB := HB1.out
      have ht := ((HRD.out.below hB (Nat.le_refl _)).take (k := n) (by omega)).alloc (.cells #[.slice a n cap, .slice a2 len2 cap2] 33)
      have ht2 := (HRD2.out.below hB (Nat.le_refl _)).alloc (.cells #[.slice a n cap, .slice a2 len2 cap2] 33)
      have hc1 : (w1.alloc (.cells #[.slice a n cap, .slice a2 len2 cap2] 33)).cell? ⟨w1.heap.size, 0, none⟩ = some (.slice a n cap) := cell_of_row _ _ 0 _ _ _ (heap_alloc_new w1 _)
      have hc2 : (w1.alloc (.cells #[.slice a n cap, .slice a2 len2 cap2] 33)).cell? ⟨w1.heap.size, 1, none⟩ = some (.slice a2 len2 cap2) := cell_of_row _ _ 1 _ _ _ (heap_alloc_new w1 _)
      refine (concatb_any w1.heap.size n cap len2 cap2 a a2 _ _ _ ht ht2 (fun e => by have := HN.out e; omega) HN2.out hc1 hc2 (by simp) (by omega)).mono ?_
      rintro e w3 ⟨hb3, v, rfl, hrv⟩
      have HB3 := Lib.hid (hB.trans (((Below.refl w1.heap.size w1).alloc (Nat.le_refl _) _).trans (hb3.mono (by simp)) |>.mono hB.size))
      have hpl := HPlay.out v _ w3 hrv
      rw [HM2.out] at hpl
      simp only [plv] at hpl
      have HPL := Lib.hid hpl
      clear hB ht ht2 hc1 hc2 hb3 hrv hpl
      go_wp2_with fail
      refine HPL.out.mono ?_
      rintro e w4 ⟨rfl, rfl⟩
      go_wp2_with fail
      go_ret
      exact ⟨by simp, HB3.out⟩
  · have HP := Lib.hid (fun w => play_bad top has (.slice a len cap) z w hp)
    have HPN := Lib.hid hp
    clear hp
    go_enter Try.func7, Try.ntmps7
    go_wp2_with fail
    refine (alive_any _).mono ?_
    rintro e w1 ⟨rfl, hb1⟩
    go_wp2_with fail
    refine (HP.out _).mono ?_
    rintro e w2 ⟨rfl, h⟩
    rcases h with ⟨h, _⟩ | ⟨h, _⟩ | ⟨_, rfl⟩
    · exact absurd h HPN.out
    · exact absurd h HPN.out
    · go_wp2_with fail
      go_ret
      exact ⟨by simp, hb1⟩
end Go.Proofs.Ytkppkfbgolmonaa.ruinTape
