/- join.Pools: what it answers. No condition. -/
import Derived.Test.YtkebahdapkjacaaPoolsL
set_option linter.unusedSimpArgs false
set_option linter.unusedVariables false
namespace Go.Proofs.Ytkebahdapkjacaa
open Go.RowKit
def PoolsPost (w : World) (ra ca rb cb : Int) (ha hb wh wo : List Int) (e : Ending) (w' : World) : Prop :=
  Below w.heap.size w w' ∧ ((pErr ra ca rb cb ha hb wh wo = 0 ∧ ∃ t v', prun (st0 ca cb ha hb) wh wo (pN ra ca cb) = some t ∧ e = .returned (.tuple #[.agg #[.int .i64 ra, .int .i64 (ca + cb), v'], .int .i64 0]) ∧ w'.ownsRow w.heap.size 3 1 v' t.o.length (t.o.map (Value.int .i64))) ∨
    (pErr ra ca rb cb ha hb wh wo ≠ 0 ∧ e = .returned (.tuple #[.agg #[.int .i64 0, .int .i64 0, .slice none 0 0], .int .i64 (pErr ra ca rb cb ha hb wh wo)])))
set_option maxHeartbeats 400000 in
theorem no_ok (c : Int) (w : World) : Calls Try.prog 18 #[.int .i64 c] w fun e w' => e = .returned (.tuple #[.agg #[.int .i64 0, .int .i64 0, .slice none 0 0], .int .i64 c]) ∧ Below w.heap.size w w' := by
  go_enter Try.func18, Try.ntmps18
  go_wp2_with fail
  refine bodyPost_ret (ret_pool rfl _ _ w.heap.size rfl (BX.new w 0 0 (.slice none 0 0)) ⟨_, _, _, rfl⟩) rfl ?_
  exact ⟨rfl, (Below.refl _ _).alloc (Nat.le_refl _) _⟩
set_option maxHeartbeats 3200000 in
set_option maxRecDepth 20000 in
theorem pools_form (ra ca rb cb : Int) (aa ab : Option Addr) (na nb ka kb : Nat) (la lb wh wo : List Int) (vw vo : Value) (w : World) (hla : la.length = na) (hlb : lb.length = nb) (he : ¬ (RightP ra ca na ∧ RightP rb cb nb ∧ ra = rb)) :
    Calls Try.prog 11 #[.agg #[.int .i64 ra, .int .i64 ca, .slice aa na ka], .agg #[.int .i64 rb, .int .i64 cb, .slice ab nb kb], vw, vo] w (PoolsPost w ra ca rb cb la lb wh wo) := by
  have HP : Hid (∀ e w', Below w.heap.size w w' → e = .returned (.tuple #[.agg #[.int .i64 0, .int .i64 0, .slice none 0 0], .int .i64 1]) → PoolsPost w ra ca rb cb la lb wh wo e w') := fun e w' hb h => by
    have : pErr ra ca rb cb la lb wh wo = 1 := by unfold pErr; rw [if_pos (by rw [hla, hlb]; exact he)]
    refine ⟨hb, .inr ?_⟩
    rw [this]
    exact ⟨by decide, h⟩
  clear hla hlb
  have HRA := Lib.hid (right_any ra ca aa na ka)
  have HRB := Lib.hid (right_any rb cb ab nb kb)
  have HB0 : Hid (Below w.heap.size w (((w.alloc (.cells #[.int .i64 ra, .int .i64 ca, .slice aa na ka] 28)).alloc (.cells #[.int .i64 rb, .int .i64 cb, .slice ab nb kb] 28)).alloc (.cells #[.int .i64 0, .int .i64 0, .slice none 0 0] 28))) := (((Below.refl _ _).alloc (Nat.le_refl _) _).alloc (by simp) _).alloc (by simp; omega) _
  have HA0 : Hid (BX (((w.alloc (.cells #[.int .i64 ra, .int .i64 ca, .slice aa na ka] 28)).alloc (.cells #[.int .i64 rb, .int .i64 cb, .slice ab nb kb] 28)).alloc (.cells #[.int .i64 0, .int .i64 0, .slice none 0 0] 28)) w.heap.size ra ca (.slice aa na ka)) := (BX.new w _ _ _).below (((Below.refl _ _).alloc (Nat.le_refl _) _).alloc (by simp) _) (by simp)
  have HC0 : Hid (BX (((w.alloc (.cells #[.int .i64 ra, .int .i64 ca, .slice aa na ka] 28)).alloc (.cells #[.int .i64 rb, .int .i64 cb, .slice ab nb kb] 28)).alloc (.cells #[.int .i64 0, .int .i64 0, .slice none 0 0] 28)) (w.heap.size + 1) rb cb (.slice ab nb kb)) := by
    have h1 := (BX.new (w.alloc (.cells #[.int .i64 ra, .int .i64 ca, .slice aa na ka] 28)) rb cb (.slice ab nb kb)).below ((Below.refl _ _).alloc (Nat.le_refl _) (.cells #[.int .i64 0, .int .i64 0, .slice none 0 0] 28)) (by simp)
    show BX _ _ _ _ _
    simpa using h1
  have HZ0 : Hid (BX (((w.alloc (.cells #[.int .i64 ra, .int .i64 ca, .slice aa na ka] 28)).alloc (.cells #[.int .i64 rb, .int .i64 cb, .slice ab nb kb] 28)).alloc (.cells #[.int .i64 0, .int .i64 0, .slice none 0 0] 28)) (w.heap.size + 2) 0 0 (.slice none 0 0)) := by
    have h1 := BX.new ((w.alloc (.cells #[.int .i64 ra, .int .i64 ca, .slice aa na ka] 28)).alloc (.cells #[.int .i64 rb, .int .i64 cb, .slice ab nb kb] 28)) 0 0 (.slice none 0 0)
    show BX _ _ _ _ _
    simpa using h1
  by_cases hA : RightP ra ca na
  · rw [decide_eq_true hA] at HRA
    by_cases hB : RightP rb cb nb
    · rw [decide_eq_true hB] at HRB
      have hne : ¬ ra = rb := fun h => he ⟨hA, hB, h⟩
      have q1 : (ra == rb) = false := by rw [beq_eq_false_iff_ne]; exact hne
      have q2 : (ra != rb) = true := by rw [bne_iff_ne]; exact hne
      clear he hA hB hne
      go_enter Try.func11, Try.ntmps11
      go_wp2_with fail
      generalize ((w.alloc (.cells #[.int .i64 ra, .int .i64 ca, .slice aa na ka] 28)).alloc (.cells #[.int .i64 rb, .int .i64 cb, .slice ab nb kb] 28)).alloc (.cells #[.int .i64 0, .int .i64 0, .slice none 0 0] 28) = wz at *
      refine (HRA.out _).mono ?_
      rintro e w1 ⟨rfl, hb1⟩
      have HB1 := Lib.hid (HB0.out.trans (hb1.mono HB0.out.size))
      have HA1 := Lib.hid (HA0.out.below hb1 HA0.out.lt)
      have HC1 := Lib.hid (HC0.out.below hb1 HC0.out.lt)
      have HZ1 := Lib.hid (HZ0.out.below hb1 HZ0.out.lt)
      clear hb1
      have c0 := HC1.out.c0
      have c1 := HC1.out.c1
      have c2 := HC1.out.c2
      go_wp2_with fail
      clear c0 c1 c2
      refine (HRB.out _).mono ?_
      rintro e w2 ⟨rfl, hb2⟩
      have HB2 := Lib.hid (HB1.out.trans (hb2.mono HB1.out.size))
      have HA2 := Lib.hid (HA1.out.below hb2 HA1.out.lt)
      have HC2 := Lib.hid (HC1.out.below hb2 HC1.out.lt)
      have HZ2 := Lib.hid (HZ1.out.below hb2 HZ1.out.lt)
      clear hb2
      have c0 := HC2.out.c0
      have c1 := HC2.out.c1
      have c2 := HC2.out.c2
      have d0 := HA2.out.c0
      have d1 := HA2.out.c1
      have d2 := HA2.out.c2
      go_wp2_with fail
      clear c0 c1 c2 d0 d1 d2
      refine (no_ok 1 _).mono ?_
      rintro e w3 ⟨rfl, hb3⟩
      have HB3 := Lib.hid (HB2.out.trans (hb3.mono HB2.out.size))
      have HZ3 := Lib.hid (HZ2.out.below hb3 HZ2.out.lt)
      clear hb3
      have e0 := HZ3.out.c0
      have e1 := HZ3.out.c1
      have e2 := HZ3.out.c2
      have f0 := HZ3.out.fr 0
      have f1 := HZ3.out.fr 1
      have f2 := HZ3.out.fr 2
      go_wp2_with fail
      refine bodyPost_ret (ret_pool rfl _ _ (w.heap.size + 2) rfl (((HZ3.out.set0 0).set1 0).set2 (.slice none 0 0)) ⟨_, _, _, rfl⟩) rfl ?_
      exact HP.out _ _ (((HB3.out.setCell (by show _ ≤ w.heap.size + 2; omega) _).setCell (by show _ ≤ w.heap.size + 2; omega) _).setCell (by show _ ≤ w.heap.size + 2; omega) _) rfl
    · rw [decide_eq_false hB] at HRB
      clear he hA hB
      go_enter Try.func11, Try.ntmps11
      go_wp2_with fail
      generalize ((w.alloc (.cells #[.int .i64 ra, .int .i64 ca, .slice aa na ka] 28)).alloc (.cells #[.int .i64 rb, .int .i64 cb, .slice ab nb kb] 28)).alloc (.cells #[.int .i64 0, .int .i64 0, .slice none 0 0] 28) = wz at *
      refine (HRA.out _).mono ?_
      rintro e w1 ⟨rfl, hb1⟩
      have HB1 := Lib.hid (HB0.out.trans (hb1.mono HB0.out.size))
      have HA1 := Lib.hid (HA0.out.below hb1 HA0.out.lt)
      have HC1 := Lib.hid (HC0.out.below hb1 HC0.out.lt)
      have HZ1 := Lib.hid (HZ0.out.below hb1 HZ0.out.lt)
      clear hb1
      have c0 := HC1.out.c0
      have c1 := HC1.out.c1
      have c2 := HC1.out.c2
      go_wp2_with fail
      clear c0 c1 c2
      refine (HRB.out _).mono ?_
      rintro e w2 ⟨rfl, hb2⟩
      have HB2 := Lib.hid (HB1.out.trans (hb2.mono HB1.out.size))
      have HA2 := Lib.hid (HA1.out.below hb2 HA1.out.lt)
      have HC2 := Lib.hid (HC1.out.below hb2 HC1.out.lt)
      have HZ2 := Lib.hid (HZ1.out.below hb2 HZ1.out.lt)
      clear hb2
      go_wp2_with fail
      refine (no_ok 1 _).mono ?_
      rintro e w3 ⟨rfl, hb3⟩
      have HB3 := Lib.hid (HB2.out.trans (hb3.mono HB2.out.size))
      have HZ3 := Lib.hid (HZ2.out.below hb3 HZ2.out.lt)
      clear hb3
      have e0 := HZ3.out.c0
      have e1 := HZ3.out.c1
      have e2 := HZ3.out.c2
      have f0 := HZ3.out.fr 0
      have f1 := HZ3.out.fr 1
      have f2 := HZ3.out.fr 2
      go_wp2_with fail
      refine bodyPost_ret (ret_pool rfl _ _ (w.heap.size + 2) rfl (((HZ3.out.set0 0).set1 0).set2 (.slice none 0 0)) ⟨_, _, _, rfl⟩) rfl ?_
      exact HP.out _ _ (((HB3.out.setCell (by show _ ≤ w.heap.size + 2; omega) _).setCell (by show _ ≤ w.heap.size + 2; omega) _).setCell (by show _ ≤ w.heap.size + 2; omega) _) rfl
  · rw [decide_eq_false hA] at HRA
    clear he hA
    go_enter Try.func11, Try.ntmps11
    go_wp2_with fail
    generalize ((w.alloc (.cells #[.int .i64 ra, .int .i64 ca, .slice aa na ka] 28)).alloc (.cells #[.int .i64 rb, .int .i64 cb, .slice ab nb kb] 28)).alloc (.cells #[.int .i64 0, .int .i64 0, .slice none 0 0] 28) = wz at *
    refine (HRA.out _).mono ?_
    rintro e w1 ⟨rfl, hb1⟩
    have HB1 := Lib.hid (HB0.out.trans (hb1.mono HB0.out.size))
    have HZ1 := Lib.hid (HZ0.out.below hb1 HZ0.out.lt)
    have HS1 := Lib.hid HB1.out.size
    clear hb1
    go_wp2_with fail
    refine (no_ok 1 _).mono ?_
    rintro e w2 ⟨rfl, hb2⟩
    have HB2 := Lib.hid (HB1.out.trans (hb2.mono HB1.out.size))
    have HZ2 := Lib.hid (HZ1.out.below hb2 HZ1.out.lt)
    clear hb2
    have e0 := HZ2.out.c0
    have e1 := HZ2.out.c1
    have e2 := HZ2.out.c2
    have f0 := HZ2.out.fr 0
    have f1 := HZ2.out.fr 1
    have f2 := HZ2.out.fr 2
    go_wp2_with fail
    refine bodyPost_ret (ret_pool rfl _ _ (w.heap.size + 2) rfl (((HZ2.out.set0 0).set1 0).set2 (.slice none 0 0)) ⟨_, _, _, rfl⟩) rfl ?_
    exact HP.out _ _ (((HB2.out.setCell (by show _ ≤ w.heap.size + 2; omega) _).setCell (by show _ ≤ w.heap.size + 2; omega) _).setCell (by show _ ≤ w.heap.size + 2; omega) _) rfl
end Go.Proofs.Ytkebahdapkjacaa
