/- join.Pools of two right pools: what it answers. No condition. -/
import Derived.Test.YtkebahdapkjacaaPoolsK
import Derived.Deep.RegionHeld3
import Derived.Deep.DeepCutAuto
import Derived.Deep.AppendLies
import Derived.Deep.RegionLaw
import Derived.Deep.CutRange
import Derived.BigRegion
import Derived.Deep.RegionWith
set_option linter.unusedSimpArgs false
set_option linter.unusedVariables false
namespace Go.Proofs.Ytkebahdapkjacaa
open Go.RowKit
set_option maxHeartbeats 6400000 in
set_option maxRecDepth 20000 in
theorem pools_run (ra ca cb : Int) (aa ab aw ao : Option Addr) (na nb nw no ka kb kw ko : Nat) (la lb wh wo : List Int) (w : World) (h1 : Rd w (.slice aa na ka) la) (h2 : Rd w (.slice ab nb kb) lb) (h3 : Rd w (.slice aw nw kw) wh) (h4 : Rd w (.slice ao no ko) wo)
    (hla : la.length = na) (hlb : lb.length = nb) (hlw : wh.length = nw) (hlo : wo.length = no) (hA : RightP ra ca na) (hB : RightP ra cb nb) :
    Calls Try.prog 11 #[.agg #[.int .i64 ra, .int .i64 ca, .slice aa na ka], .agg #[.int .i64 ra, .int .i64 cb, .slice ab nb kb], .slice aw nw kw, .slice ao no ko] w (PoolsPost w ra ca ra cb la lb wh wo) := by
  have HP : Hid (∀ e w' c, pErr ra ca ra cb la lb wh wo = c → c ≠ 0 → Below w.heap.size w w' → e = .returned (.tuple #[.agg #[.int .i64 0, .int .i64 0, .slice none 0 0], .int .i64 c]) → PoolsPost w ra ca ra cb la lb wh wo e w') := fun e w' c hc h0 hb h => by
    subst hc
    exact ⟨hb, .inr ⟨h0, h⟩⟩
  have HE : Hid (pErr ra ca ra cb la lb wh wo = if 1099511627776 - cb < ca then 4 else if nw < pN ra ca cb ∨ no < pN ra ca cb then 7 else match prun (st0 ca cb la lb) wh wo (pN ra ca cb) with | none => 2 | some _ => 0) := by
    show _ = _
    unfold pErr
    rw [hla, hlb, hlw, hlo, if_neg (fun h => h ⟨hA, hB, rfl⟩)]
    rfl
  have HRA := Lib.hid (right_any ra ca aa na ka)
  have HRB := Lib.hid (right_any ra cb ab nb kb)
  have HB0 : Hid (Below w.heap.size w (((w.alloc (.cells #[.int .i64 ra, .int .i64 ca, .slice aa na ka] 28)).alloc (.cells #[.int .i64 ra, .int .i64 cb, .slice ab nb kb] 28)).alloc (.cells #[.int .i64 0, .int .i64 0, .slice none 0 0] 28))) := (((Below.refl _ _).alloc (Nat.le_refl _) _).alloc (by simp) _).alloc (by simp; omega) _
  have HA0 : Hid (BX (((w.alloc (.cells #[.int .i64 ra, .int .i64 ca, .slice aa na ka] 28)).alloc (.cells #[.int .i64 ra, .int .i64 cb, .slice ab nb kb] 28)).alloc (.cells #[.int .i64 0, .int .i64 0, .slice none 0 0] 28)) w.heap.size ra ca (.slice aa na ka)) := (BX.new w _ _ _).below (((Below.refl _ _).alloc (Nat.le_refl _) _).alloc (by simp) _) (by simp)
  have HC0 : Hid (BX (((w.alloc (.cells #[.int .i64 ra, .int .i64 ca, .slice aa na ka] 28)).alloc (.cells #[.int .i64 ra, .int .i64 cb, .slice ab nb kb] 28)).alloc (.cells #[.int .i64 0, .int .i64 0, .slice none 0 0] 28)) (w.heap.size + 1) ra cb (.slice ab nb kb)) := by
    have h1 := (BX.new (w.alloc (.cells #[.int .i64 ra, .int .i64 ca, .slice aa na ka] 28)) ra cb (.slice ab nb kb)).below ((Below.refl _ _).alloc (Nat.le_refl _) (.cells #[.int .i64 0, .int .i64 0, .slice none 0 0] 28)) (by simp)
    show BX _ _ _ _ _
    simpa using h1
  have HZ0 : Hid (BX (((w.alloc (.cells #[.int .i64 ra, .int .i64 ca, .slice aa na ka] 28)).alloc (.cells #[.int .i64 ra, .int .i64 cb, .slice ab nb kb] 28)).alloc (.cells #[.int .i64 0, .int .i64 0, .slice none 0 0] 28)) (w.heap.size + 2) 0 0 (.slice none 0 0)) := by
    have h1 := BX.new ((w.alloc (.cells #[.int .i64 ra, .int .i64 ca, .slice aa na ka] 28)).alloc (.cells #[.int .i64 ra, .int .i64 cb, .slice ab nb kb] 28)) 0 0 (.slice none 0 0)
    show BX _ _ _ _ _
    simpa using h1
  rw [decide_eq_true hA] at HRA
  rw [decide_eq_true hB] at HRB
  have HL1 := Lib.hid h1
  have HL2 := Lib.hid h2
  have HL3 := Lib.hid h3
  have HL4' := Lib.hid h4
  have HRPA := Lib.hid hA
  have HRPB := Lib.hid hB
  obtain ⟨r1, r2, r3, r4, r5⟩ := hA
  obtain ⟨-, -, s3, s4, s5⟩ := hB
  have HLA := Lib.hid hla
  have HLB := Lib.hid hlb
  clear h1 h2 h3 h4 hla hlb hlw hlo
  have hq1 : (ra == ra) = true := by simp
  have hq2 : (ra != ra) = false := by simp
  have HR5 := Lib.hid r5
  have HS5 := Lib.hid s5
  clear r5 s5
  go_enter Try.func11, Try.ntmps11
  go_wp2_with fail
  generalize ((w.alloc (.cells #[.int .i64 ra, .int .i64 ca, .slice aa na ka] 28)).alloc (.cells #[.int .i64 ra, .int .i64 cb, .slice ab nb kb] 28)).alloc (.cells #[.int .i64 0, .int .i64 0, .slice none 0 0] 28) = wz at *
  refine (HRA.out _).mono ?_
  rintro e w1 ⟨rfl, hb1⟩
  have HB1 := Lib.hid (HB0.out.trans (hb1.mono HB0.out.size))
  have HA1 := Lib.hid (HA0.out.below hb1 HA0.out.lt)
  have HC1 := Lib.hid (HC0.out.below hb1 HC0.out.lt)
  have HZ1 := Lib.hid (HZ0.out.below hb1 HZ0.out.lt)
  clear hb1
  have c0 := HC1.out.c0
  have c1 := HC1.out.c1
  have c2 := HC1.out.c2
  go_wp2_with fail
  clear c0 c1 c2
  refine (HRB.out _).mono ?_
  rintro e w2 ⟨rfl, hb2⟩
  have HB2 := Lib.hid (HB1.out.trans (hb2.mono HB1.out.size))
  have HA2 := Lib.hid (HA1.out.below hb2 HA1.out.lt)
  have HC2 := Lib.hid (HC1.out.below hb2 HC1.out.lt)
  have HZ2 := Lib.hid (HZ1.out.below hb2 HZ1.out.lt)
  clear hb2
  have c0 := HC2.out.c0
  have c1 := HC2.out.c1
  have c2 := HC2.out.c2
  have d0 := HA2.out.c0
  have d1 := HA2.out.c1
  have d2 := HA2.out.c2
  have hs2 : w.heap.size + 2 < w2.heap.size := HZ2.out.lt
  by_cases hfull : 1099511627776 - cb < ca
  · have q1 : decide (1099511627776 - cb < ca) = true := decide_eq_true hfull
    have HEE : Hid (pErr ra ca ra cb la lb wh wo = 4) := by
      show _ = _
      rw [HE.out, if_pos hfull]
    clear hfull
    go_wp2_with fail
    clear c0 c1 c2 d0 d1 d2
    refine (no_ok 4 _).mono ?_
    rintro e w3 ⟨rfl, hb3⟩
    have HB3 := Lib.hid (HB2.out.trans (hb3.mono HB2.out.size))
    have HZ3 := Lib.hid (HZ2.out.below hb3 HZ2.out.lt)
    clear hb3
    have e0 := HZ3.out.c0
    have e1 := HZ3.out.c1
    have e2 := HZ3.out.c2
    have f0 := HZ3.out.fr 0
    have f1 := HZ3.out.fr 1
    have f2 := HZ3.out.fr 2
    go_wp2_with fail
    refine bodyPost_ret (ret_pool rfl _ _ (w.heap.size + 2) rfl (((HZ3.out.set0 0).set1 0).set2 (.slice none 0 0)) ⟨_, _, _, rfl⟩) rfl ?_
    exact HP.out _ _ 4 HEE.out (by decide) (((HB3.out.setCell (by show _ ≤ w.heap.size + 2; omega) _).setCell (by show _ ≤ w.heap.size + 2; omega) _).setCell (by show _ ≤ w.heap.size + 2; omega) _) rfl
  · have q1 : decide (1099511627776 - cb < ca) = false := decide_eq_false hfull
    have hcc : ca + cb ≤ 1099511627776 := by omega
    clear hfull
    have HPN : Hid (((pN ra ca cb : Nat) : Int) = min ra (ca + cb)) := by show _ = _; unfold pN; omega
    obtain ⟨n, hn⟩ : ∃ n, pN ra ca cb = n := ⟨_, rfl⟩
    rw [hn] at HE HPN
    have HNN := Lib.hid hn
    clear hn
    have hmin : min ra (ca + cb) = (n : Int) := HPN.out.symm
    have hn4 : n ≤ 400 := by have := HPN.out; omega
    by_cases hend : nw < n ∨ no < n
    · have HEE : Hid (pErr ra ca ra cb la lb wh wo = 7) := by
        show _ = _
        rw [HE.out, if_neg (by omega), if_pos hend]
      have hs2a : w.heap.size < w2.heap.size := HA2.out.lt
      have hs2b : w.heap.size + 1 < w2.heap.size := HC2.out.lt
      have k3 : Below w2.heap.size w2 (w2.alloc (.cells #[.int .i64 ra, .int .i64 (ca + cb), .slice none 0 0] 28)) := (Below.refl _ _).alloc (Nat.le_refl _) _
      have HB3 : Hid (Below w.heap.size w (w2.alloc (.cells #[.int .i64 ra, .int .i64 (ca + cb), .slice none 0 0] 28))) := HB2.out.trans (k3.mono HB2.out.size)
      have HZ3 := Lib.hid (HZ2.out.below k3 HZ2.out.lt)
      clear k3
      by_cases hw0 : nw < n
      · have q2 : decide (nw < n) = true := decide_eq_true hw0
        have q4 : decide ((nw : Int) < (n : Int)) = true := decide_eq_true (by omega)
        clear hend hw0
        go_wp2_with fail
        refine (no_ok 7 _).mono ?_
        rintro e w4 ⟨rfl, hb4⟩
        have HB4 := Lib.hid (HB3.out.trans (hb4.mono HB3.out.size))
        have HZ4 := Lib.hid (HZ3.out.below hb4 HZ3.out.lt)
        clear hb4
        have e0 := HZ4.out.c0
        have e1 := HZ4.out.c1
        have e2 := HZ4.out.c2
        have f0 := HZ4.out.fr 0
        have f1 := HZ4.out.fr 1
        have f2 := HZ4.out.fr 2
        go_wp2_with fail
        refine bodyPost_ret (ret_pool rfl _ _ (w.heap.size + 2) rfl (((HZ4.out.set0 0).set1 0).set2 (.slice none 0 0)) ⟨_, _, _, rfl⟩) rfl ?_
        exact HP.out _ _ 7 HEE.out (by decide) (((HB4.out.setCell (by show _ ≤ w.heap.size + 2; omega) _).setCell (by show _ ≤ w.heap.size + 2; omega) _).setCell (by show _ ≤ w.heap.size + 2; omega) _) rfl
      · have q2 : decide (nw < n) = false := decide_eq_false (by omega)
        have q4 : decide ((nw : Int) < (n : Int)) = false := decide_eq_false (by omega)
        have q3 : decide (no < n) = true := decide_eq_true (by omega)
        have q5 : decide ((no : Int) < (n : Int)) = true := decide_eq_true (by omega)
        clear hend hw0
        go_wp2_with fail
        refine (no_ok 7 _).mono ?_
        rintro e w4 ⟨rfl, hb4⟩
        have HB4 := Lib.hid (HB3.out.trans (hb4.mono HB3.out.size))
        have HZ4 := Lib.hid (HZ3.out.below hb4 HZ3.out.lt)
        clear hb4
        have e0 := HZ4.out.c0
        have e1 := HZ4.out.c1
        have e2 := HZ4.out.c2
        have f0 := HZ4.out.fr 0
        have f1 := HZ4.out.fr 1
        have f2 := HZ4.out.fr 2
        go_wp2_with fail
        refine bodyPost_ret (ret_pool rfl _ _ (w.heap.size + 2) rfl (((HZ4.out.set0 0).set1 0).set2 (.slice none 0 0)) ⟨_, _, _, rfl⟩) rfl ?_
        exact HP.out _ _ 7 HEE.out (by decide) (((HB4.out.setCell (by show _ ≤ w.heap.size + 2; omega) _).setCell (by show _ ≤ w.heap.size + 2; omega) _).setCell (by show _ ≤ w.heap.size + 2; omega) _) rfl
    · have q2 : decide (nw < n) = false := decide_eq_false (by omega)
      have q3 : decide (no < n) = false := decide_eq_false (by omega)
      have q4 : decide ((nw : Int) < (n : Int)) = false := decide_eq_false (by omega)
      have q5 : decide ((no : Int) < (n : Int)) = false := decide_eq_false (by omega)
      have hs2a : w.heap.size < w2.heap.size := HA2.out.lt
      have hs2b : w.heap.size + 1 < w2.heap.size := HC2.out.lt
      have hk4 : Below w2.heap.size w2 ((w2.alloc (.cells #[.int .i64 ra, .int .i64 (ca + cb), .slice none 0 0] 28)).alloc (.cells #[.int .i64 ca, .int .i64 cb] 46)) := ((Below.refl _ _).alloc (Nat.le_refl _) _).alloc (by simp) _
      have HB4 : Hid (Below w.heap.size w ((w2.alloc (.cells #[.int .i64 ra, .int .i64 (ca + cb), .slice none 0 0] 28)).alloc (.cells #[.int .i64 ca, .int .i64 cb] 46))) := HB2.out.trans (hk4.mono HB2.out.size)
      have HA4 := Lib.hid (HA2.out.below hk4 HA2.out.lt)
      have HC4 := Lib.hid (HC2.out.below hk4 HC2.out.lt)
      have HZ4 := Lib.hid (HZ2.out.below hk4 HZ2.out.lt)
      have HO4 : Hid (BX ((w2.alloc (.cells #[.int .i64 ra, .int .i64 (ca + cb), .slice none 0 0] 28)).alloc (.cells #[.int .i64 ca, .int .i64 cb] 46)) w2.heap.size ra (ca + cb) (.slice none 0 0)) := (BX.new w2 _ _ _).below ((Below.refl _ _).alloc (Nat.le_refl _) _) (BX.new w2 _ _ _).lt
      have HL4 : Hid (((w2.alloc (.cells #[.int .i64 ra, .int .i64 (ca + cb), .slice none 0 0] 28)).alloc (.cells #[.int .i64 ca, .int .i64 cb] 46)).heap[w2.heap.size + 1]? = some (.cells #[.int .i64 ca, .int .i64 cb] 46 (0, 0))) := by
        have := heap_alloc_new (w2.alloc (.cells #[.int .i64 ra, .int .i64 (ca + cb), .slice none 0 0] 28)) (.cells #[.int .i64 ca, .int .i64 cb] 46)
        show _ = _
        simpa using this
      have HLs : Hid (w2.heap.size + 2 = ((w2.alloc (.cells #[.int .i64 ra, .int .i64 (ca + cb), .slice none 0 0] 28)).alloc (.cells #[.int .i64 ca, .int .i64 cb] 46)).heap.size) := by show _ = _; simp
      clear hk4
      have HOZ : Hid (w.heap.size + 2 ≠ w2.heap.size ∧ w.heap.size + 2 ≠ w2.heap.size + 1 ∧ w.heap.size ≤ w2.heap.size) := by show _ ∧ _ ∧ _; omega
      go_wp2_with fail
      generalize (w2.alloc (.cells #[.int .i64 ra, .int .i64 (ca + cb), .slice none 0 0] 28)).alloc (.cells #[.int .i64 ca, .int .i64 cb] 46) = w4 at *
      generalize w2.heap.size = O at *
      clear hs2 hs2a hs2b c0 c1 c2 d0 d1 d2
      have c2 := HA4.out.c2
      have d2 := HC4.out.c2
      have HCL1 : Hid (∀ X, Below w4.heap.size w4 X → Calls Try.prog 20 #[.slice aa na ka] X fun e w' => Below X.heap.size X w' ∧ ∃ a2 k2, e = .returned (.slice a2 na k2) ∧ w'.ownsRow X.heap.size 3 1 (.slice a2 na k2) na (la.map (Value.int .i64))) := fun X hX => by
        have h1 := (HL1.out.below HB4.out (Nat.le_refl _)).below hX (Nat.le_refl _)
        have h2 := clone_any _ la X h1 (by rw [HLA.out]; have := HR5.out; omega)
        rw [HLA.out] at h2
        refine h2.mono ?_
        rintro e w' ⟨v', rfl, ho, hb⟩
        obtain ⟨a2, k2, hv, -⟩ := (Rd.own ho).slice
        rw [HLA.out] at hv
        subst hv
        exact ⟨hb, a2, k2, rfl, ho⟩
      have HCL2 : Hid (∀ X, Below w4.heap.size w4 X → Calls Try.prog 20 #[.slice ab nb kb] X fun e w' => Below X.heap.size X w' ∧ ∃ a2 k2, e = .returned (.slice a2 nb k2) ∧ w'.ownsRow X.heap.size 3 1 (.slice a2 nb k2) nb (lb.map (Value.int .i64))) := fun X hX => by
        have h1 := (HL2.out.below HB4.out (Nat.le_refl _)).below hX (Nat.le_refl _)
        have h2 := clone_any _ lb X h1 (by rw [HLB.out]; have := HS5.out; omega)
        rw [HLB.out] at h2
        refine h2.mono ?_
        rintro e w' ⟨v', rfl, ho, hb⟩
        obtain ⟨a2, k2, hv, -⟩ := (Rd.own ho).slice
        rw [HLB.out] at hv
        subst hv
        exact ⟨hb, a2, k2, rfl, ho⟩
      have hlA : w.heap.size < w4.heap.size := HA4.out.lt
      have hlC : w.heap.size + 1 < w4.heap.size := HC4.out.lt
      have SB : Hid (∀ w', Below w4.heap.size w4 w' → w'.cell? ⟨w.heap.size, 2, none⟩ = some (.slice aa na ka) ∧ w'.cell? ⟨w.heap.size + 1, 2, none⟩ = some (.slice ab nb kb)) := fun w' hb => ⟨(World.cell?_of_block (hb.block _ hlA)).trans c2, (World.cell?_of_block (hb.block _ hlC)).trans d2⟩
      go_cut [14] (fun s14 wx => ∃ Hb v0 v1, s14 = .pointer (some ⟨Hb, 0, none⟩) ∧ Hid (TwoR w4.heap.size w4 wx Hb v0 v1 na nb la lb))
      case first =>
        go_region_held3 (fun w' => w'.cell? ⟨w.heap.size, 2, none⟩ = some (.slice aa na ka) ∧ w'.cell? ⟨w.heap.size + 1, 2, none⟩ = some (.slice ab nb kb)) (first | exact ⟨c2, d2⟩ | exact SB.out _ (((Below.refl _ _).alloc (Nat.le_refl _) _).drew) | exact SB.out _ (by assumption) | exact SB.out _ (hB5.alloc hB5.size _) | exact SB.out _ (hB6.alloc hB6.size _) | exact SB.out _ ((hB6.setCell (by first | exact Nat.le_refl _ | exact hB5.size) _).setCell (by first | exact Nat.le_refl _ | exact hB5.size) _)) (first
          | (go_at_call_of 20 (Value.slice aa na ka); (with_reducible refine (HCL1.out w4.drew (Below.refl _ _).drew).mono ?_); rintro e w5 ⟨hb5, a5, k5, rfl, ho5⟩; (have hB5 : Below w4.heap.size w4 w5 := undrew hb5))
          | (go_at_call_of 20 (Value.slice aa na ka); (with_reducible refine (HCL1.out (w4.alloc (.cells #[.slice none 0 0, .slice none 0 0] 48)).drew (((Below.refl _ _).alloc (Nat.le_refl _) _).drew)).mono ?_); rintro e w5 ⟨hb5, a5, k5, rfl, ho5⟩; (have hB5 : Below w4.heap.size w4 w5 := ((Below.refl w4.heap.size w4).alloc (Nat.le_refl _) _).trans ((undrew hb5).mono (by simp))); (have hZ5 : w5.heap[w4.heap.size]? = some (.cells #[.slice none 0 0, .slice none 0 0] 48 (0, 0)) := (hb5.block _ (by simp)).trans (heap_alloc_new w4 _)))
          | (go_at_call_of 20 (Value.slice ab nb kb); (with_reducible refine (HCL2.out w5 hB5).mono ?_); rintro e w6 ⟨hb6, a6, k6, rfl, ho6⟩; (have hB6 : Below w4.heap.size w4 w6 := hB5.trans (hb6.mono hB5.size)); (have hZ6 : w6.heap[w4.heap.size]? = some (.cells #[.slice none 0 0, .slice none 0 0] 48 (0, 0)) := (hb6.block _ (lt_of_block hZ5)).trans hZ5); (have e0 := cell_of_row _ _ 0 _ _ _ hZ6); (have e1 := cell_of_row _ _ 1 _ _ _ hZ6); (have f0 := free_of_row _ _ 0 _ _ hZ6); (have f1 := free_of_row _ _ 1 _ _ hZ6))
          | (go_at_call_of 20 (Value.slice ab nb kb); (with_reducible refine (HCL2.out w5 hB5).mono ?_); rintro e w6 ⟨hb6, a6, k6, rfl, ho6⟩; (have hB6 : Below w4.heap.size w4 w6 := hB5.trans (hb6.mono hB5.size)))
          | (go_at_call_of 20 (Value.slice ab nb kb); (with_reducible refine (HCL2.out (w5.alloc (.cells #[.slice none 0 0, .slice none 0 0] 48)) (hB5.alloc hB5.size _)).mono ?_); rintro e w6 ⟨hb6, a6, k6, rfl, ho6⟩; (have hB6 : Below w4.heap.size w4 w6 := (hB5.alloc hB5.size _).trans (hb6.mono (by simp; exact Nat.le_succ_of_le hB5.size))); (have hZ6 : w6.heap[w5.heap.size]? = some (.cells #[.slice none 0 0, .slice none 0 0] 48 (0, 0)) := (hb6.block _ (by simp)).trans (heap_alloc_new w5 _)); (have e0 := cell_of_row _ _ 0 _ _ _ hZ6); (have e1 := cell_of_row _ _ 1 _ _ _ hZ6); (have f0 := free_of_row _ _ 0 _ _ hZ6); (have f1 := free_of_row _ _ 1 _ _ hZ6)))
        all_goals
          go_wp2_with fail
          go_meet
          first
            | (have A := hZ6
               have s5 := hB5.size
               refine ⟨w5.heap.size, _, _, rfl, two_set (S := 0) (T := 0) (w5 := w5) s5 hB6 hZ6 (own_below (ho5.alloc _) hb6 (Nat.le_refl _)) (own_base ho6 (by simp; omega)) (fun g hg => ?_) (fun g hg => ?_)⟩
               · have h1 := ho5.lt g hg
                 refine ⟨by omega, fun h => ?_⟩
                 have h2 := ho6.lt g h
                 simp at h2; omega
               · have h2 := ho6.lt g hg
                 simp at h2; omega)
            | (have A := hZ6
               have s5 := hB5.size
               have q5 := hb5.size
               refine ⟨w4.heap.size, _, _, rfl, two_set (S := 0) (T := 0) (w5 := w5) (Nat.le_refl _) hB6 hZ6 (own_base (own_below ho5 hb6 (Nat.le_refl _)) (by simp)) (own_base ho6 s5) (fun g hg => ?_) (fun g hg => ?_)⟩
               · have h1 := ho5.lt g hg
                 simp at h1
                 refine ⟨by omega, fun h => ?_⟩
                 have h2 := ho6.lt g h
                 omega
               · have h2 := ho6.lt g hg
                 simp at q5
                 omega)
            | exact ⟨w6.heap.size, _, _, rfl, two_late hB5 ho5 hb6 ho6⟩
      case rest =>
        obtain ⟨Hb, v0, v1, rfl, HT⟩ := hcut
        have HZc := Lib.hid (HZ4.out.below HT.out.2.2.2.2.1 HZ4.out.lt)
        have HOc := Lib.hid (HO4.out.below HT.out.2.2.2.2.1 HO4.out.lt)
        have HLc : Hid (wc.heap[O + 1]? = some (.cells #[.int .i64 ca, .int .i64 cb] 46 (0, 0))) := (HT.out.2.2.2.2.1.block _ (lt_of_block HL4.out)).trans HL4.out
        have HBc := Lib.hid (HB4.out.trans (HT.out.2.2.2.2.1.mono HB4.out.size))
        have HE2 : Hid (∀ k, prun (st0 ca cb la lb) wh wo k = none → k ≤ n → pErr ra ca ra cb la lb wh wo = 2) := fun k hk hkn => by
          rw [HE.out, if_neg (by omega), if_neg (by omega), prun_none hk n hkn]
        have HE0 : Hid (∀ t, prun (st0 ca cb la lb) wh wo n = some t → pErr ra ca ra cb la lb wh wo = 0) := fun t hk => by
          rw [HE.out, if_neg (by omega), if_neg (by omega), hk]
        have hna : na ≤ 400 := by have := HR5.out; omega
        have hnb : nb ≤ 400 := by have := HS5.out; omega
        have hBO : O + 1 < w4.heap.size := by have := HLs.out; omega
        have HLP : Hid (LP w4.heap.size O Hb (w.heap.size + 2) ra (ca + cb) w wc (st0 ca cb la lb) (.slice none 0 0) v0 v1) := by
          obtain ⟨t1, t2, t3, t4, t5, t6, t7⟩ := HT.out
          refine ⟨HOc.out, ?_, t1, t2, ?_, ?_, ?_, fun g hg => ⟨(t6 g hg).1, (t6 g hg).2, by simp [Value.ownBlock]⟩, fun g hg => ⟨t7 g hg, by simp [Value.ownBlock]⟩, (fun g hg => by cases hg), HZc.out, HBc.out⟩
          · show wc.heap[O + 1]? = some (.cells #[.int .i64 (ca.toNat : Nat), .int .i64 (cb.toNat : Nat)] 46 (0, 0))
            rw [Int.toNat_of_nonneg r3, Int.toNat_of_nonneg s3]
            exact HLc.out
          · exact World.ownsRow_nil _ _ _ _
          · show wc.ownsRow _ 3 1 v0 la.length _
            rw [HLA.out]; exact t3
          · show wc.ownsRow _ 3 1 v1 lb.length _
            rw [HLB.out]; exact t4
        have HBw4 : Hid (w.heap.size + 2 < w4.heap.size) := HZ4.out.lt
        have HZOO : Hid (w.heap.size + 2 ≠ O ∧ w.heap.size + 2 ≠ O + 1 ∧ w.heap.size ≤ O) := HOZ
        obtain ⟨i3, hi3, hz0, hz1, hz2⟩ := info_parts Try.info3
        generalize w4.heap.size = B at *
        clear hmin HT HZc HOc HLc HBc HE HPN HL4 HLs HO4 HA4 HC4 HZ4 SB HCL1 HCL2 HB4 c2 d2 hlA hlC
        go_wp2_with fail
        go_loopw [90] (fun kv wr => ∃ k : Nat, ∃ t vo v0 v1, k ≤ n ∧ kv = .int .i64 k ∧ Hid (prun (st0 ca cb la lb) wh wo k = some t) ∧ Hid (LP B O Hb (w.heap.size + 2) ra (ca + cb) w wr t vo v0 v1)) (fun kv _ => n - (intOf kv).toNat)
        case atStart => exact ⟨0, _, _, _, _, Nat.zero_le _, rfl, rfl, HLP.out⟩
        case round =>
          clear HLP
          obtain ⟨k, t, vo, v0, v1, hkn, rfl, HPR, HLP⟩ := hrel
          have HKP := Lib.hid (prun_kept (s := st0 ca cb la lb) rfl k t HPR.out)
          have HBE := Lib.hid HLP.out.below
          have HZE := Lib.hid HLP.out.zb
          by_cases hlt : k < n
          · have HPS := Lib.hid (prun_succ (wh := wh) (wo := wo) HPR.out)
            obtain ⟨bw, ow, rfl, hbw, cw⟩ := (HL3.out.below HBE.out (Nat.le_refl _)).at (show k < nw by omega)
            obtain ⟨bo, oo, rfl, hbo, co⟩ := (HL4'.out.below HBE.out (Nat.le_refl _)).at (show k < no by omega)
            have kw1 : (k : Int) < nw := by omega
            have ko1 : (k : Int) < no := by omega
            generalize wh.getD k 0 = d at *
            generalize wo.getD k 0 = x at *
            have hl0 : t.l0 ≤ 1099511627776 := by have h1 := HKP.out.m0; have h2 : (st0 ca cb la lb).l0 = ca.toNat := rfl; omega
            have hl1 : t.l1 ≤ 1099511627776 := by have h1 := HKP.out.m1; have h2 : (st0 ca cb la lb).l1 = cb.toNat := rfl; omega
            have HHa := Lib.hid HLP.out.lb
            have HHh := Lib.hid HLP.out.hb
            have a0 := cell_of_row _ _ 0 _ _ _ HHa.out
            have a1 := cell_of_row _ _ 1 _ _ _ HHa.out
            have b0 := cell_of_row _ _ 0 _ _ _ HHh.out
            have b1 := cell_of_row _ _ 1 _ _ _ HHh.out
            have x0 := HLP.out.ob.c0
            have x2 := HLP.out.ob.c2
            have HOO := Lib.hid HLP.out.oo
            have HO0 := Lib.hid HLP.out.o0
            have HO1 := Lib.hid HLP.out.o1
            have hlk : t.o.length ≤ 400 := by have := HKP.out.len; omega
            have HL01 : Hid (d < t.l0 + t.l1 → (t.l0 : Int) ≤ d → 0 < t.l1) := fun h1 h2 => by omega
            simp at a0 a1 b0 b1
            have hO1 : O + 1 < wr.heap.size := lt_of_block HHa.out
            have hBwr : B ≤ wr.heap.size := Nat.le_of_lt (Nat.lt_of_le_of_lt HLP.out.bh (lt_of_block HHh.out))
            by_cases hd : d < 0 ∨ (t.l0 : Int) + t.l1 ≤ d
            · have HNO : Hid (prun (st0 ca cb la lb) wh wo (k + 1) = none) := by
                show _ = _
                rw [HPS.out]; unfold pstep
                rw [if_pos hd]
              have HE2' := HE2
              by_cases hd0 : d < 0
              · have p1 : decide (d < 0) = true := decide_eq_true hd0
                clear hd hd0
                go_wp2_with fail
                refine (no_ok 2 _).mono ?_
                rintro e w9 ⟨rfl, hb9⟩
                have HB9 := Lib.hid (HBE.out.trans (hb9.mono HBE.out.size))
                have HZ9 := Lib.hid (HZE.out.below hb9 HZE.out.lt)
                clear hb9
                have e0 := HZ9.out.c0
                have e1 := HZ9.out.c1
                have e2 := HZ9.out.c2
                have f0 := HZ9.out.fr 0
                have f1 := HZ9.out.fr 1
                have f2 := HZ9.out.fr 2
                go_wp2_with ((with_reducible refine bodyPost_ret (ret_pool rfl _ _ (w.heap.size + 2) rfl (((HZ9.out.set0 0).set1 0).set2 (.slice none 0 0)) ⟨_, _, _, rfl⟩) rfl ?_); exact HP.out _ _ 2 (HE2.out _ HNO.out (by omega)) (by decide) (((HB9.out.setCell (by show _ ≤ w.heap.size + 2; omega) _).setCell (by show _ ≤ w.heap.size + 2; omega) _).setCell (by show _ ≤ w.heap.size + 2; omega) _) rfl)
              · have p1 : decide (d < 0) = false := decide_eq_false hd0
                have p3 : decide ((t.l0 : Int) + t.l1 ≤ d) = true := decide_eq_true (by omega)
                clear hd hd0
                go_wp2_with fail
                refine (no_ok 2 _).mono ?_
                rintro e w9 ⟨rfl, hb9⟩
                have HB9 := Lib.hid (HBE.out.trans (hb9.mono HBE.out.size))
                have HZ9 := Lib.hid (HZE.out.below hb9 HZE.out.lt)
                clear hb9
                have e0 := HZ9.out.c0
                have e1 := HZ9.out.c1
                have e2 := HZ9.out.c2
                have f0 := HZ9.out.fr 0
                have f1 := HZ9.out.fr 1
                have f2 := HZ9.out.fr 2
                go_wp2_with ((with_reducible refine bodyPost_ret (ret_pool rfl _ _ (w.heap.size + 2) rfl (((HZ9.out.set0 0).set1 0).set2 (.slice none 0 0)) ⟨_, _, _, rfl⟩) rfl ?_); exact HP.out _ _ 2 (HE2.out _ HNO.out (by omega)) (by decide) (((HB9.out.setCell (by show _ ≤ w.heap.size + 2; omega) _).setCell (by show _ ≤ w.heap.size + 2; omega) _).setCell (by show _ ≤ w.heap.size + 2; omega) _) rfl)
            · have p1 : decide (d < 0) = false := decide_eq_false (by omega)
              have p3 : decide ((t.l0 : Int) + t.l1 ≤ d) = false := decide_eq_false (by omega)
              by_cases hs : (t.l0 : Int) ≤ d
              · have p4 : decide ((t.l0 : Int) ≤ d) = true := decide_eq_true hs
                by_cases hx : x < 0 ∨ (t.h1.length : Int) ≤ x
                · have HNO : Hid (prun (st0 ca cb la lb) wh wo (k + 1) = none) := by
                    show _ = _
                    rw [HPS.out]; unfold pstep
                    rw [if_neg hd, if_pos hs, if_pos hx]
                  by_cases hx0 : x < 0
                  · have p2 : decide (x < 0) = true := decide_eq_true hx0
                    clear hx hx0 hd hs
                    go_wp2_with fail
                    refine (no_ok 2 _).mono ?_
                    rintro e w9 ⟨rfl, hb9⟩
                    have HB9 := Lib.hid (HBE.out.trans (hb9.mono HBE.out.size))
                    have HZ9 := Lib.hid (HZE.out.below hb9 HZE.out.lt)
                    clear hb9
                    have e0 := HZ9.out.c0
                    have e1 := HZ9.out.c1
                    have e2 := HZ9.out.c2
                    have f0 := HZ9.out.fr 0
                    have f1 := HZ9.out.fr 1
                    have f2 := HZ9.out.fr 2
                    go_wp2_with ((with_reducible refine bodyPost_ret (ret_pool rfl _ _ (w.heap.size + 2) rfl (((HZ9.out.set0 0).set1 0).set2 (.slice none 0 0)) ⟨_, _, _, rfl⟩) rfl ?_); exact HP.out _ _ 2 (HE2.out _ HNO.out (by omega)) (by decide) (((HB9.out.setCell (by show _ ≤ w.heap.size + 2; omega) _).setCell (by show _ ≤ w.heap.size + 2; omega) _).setCell (by show _ ≤ w.heap.size + 2; omega) _) rfl)
                  · have p2 : decide (x < 0) = false := decide_eq_false hx0
                    have p3 : decide ((t.h1.length : Int) ≤ x) = true := decide_eq_true (by omega)
                    have hvl := own_slice HO1.out
                    obtain ⟨av, kv, rfl⟩ := hvl
                    clear hx hx0 hd hs
                    generalize t.h1.length = m at *
                    go_wp2_with fail
                    refine (no_ok 2 _).mono ?_
                    rintro e w9 ⟨rfl, hb9⟩
                    have HB9 := Lib.hid (HBE.out.trans (hb9.mono HBE.out.size))
                    have HZ9 := Lib.hid (HZE.out.below hb9 HZE.out.lt)
                    clear hb9
                    have e0 := HZ9.out.c0
                    have e1 := HZ9.out.c1
                    have e2 := HZ9.out.c2
                    have f0 := HZ9.out.fr 0
                    have f1 := HZ9.out.fr 1
                    have f2 := HZ9.out.fr 2
                    go_wp2_with ((with_reducible refine bodyPost_ret (ret_pool rfl _ _ (w.heap.size + 2) rfl (((HZ9.out.set0 0).set1 0).set2 (.slice none 0 0)) ⟨_, _, _, rfl⟩) rfl ?_); exact HP.out _ _ 2 (HE2.out _ HNO.out (by omega)) (by decide) (((HB9.out.setCell (by show _ ≤ w.heap.size + 2; omega) _).setCell (by show _ ≤ w.heap.size + 2; omega) _).setCell (by show _ ≤ w.heap.size + 2; omega) _) rfl)
                · obtain ⟨j, rfl⟩ : ∃ j : Nat, x = j := ⟨x.toNat, by omega⟩
                  have p2 : decide ((j : Int) < 0) = false := decide_eq_false (by omega)
                  have hjm : j < t.h1.length := by omega
                  have HYES : Hid (prun (st0 ca cb la lb) wh wo (k + 1) = some ⟨t.l0, t.l1 - 1, t.h0, t.h1.eraseIdx j, t.o ++ [t.h1.getD j 0]⟩) := by
                    show _ = _
                    rw [HPS.out]; unfold pstep
                    rw [if_neg hd, if_pos hs, if_neg hx]
                    simp
                  have hlm := HKP.out.n1
                  obtain ⟨g, cg, rfl, hg1, hg2, hg3, hg4, hg5⟩ := own_open HO1.out (by omega : 0 < t.h1.length)
                  have cj := own_get HO1.out j hjm
                  have HLX : Hid (0 < t.l1) := by show _ < _; have := HL01.out; omega
                  have HEL : Hid ((t.h1.eraseIdx j).length = t.h1.length - 1) := by show _ = _; rw [List.length_eraseIdx_of_lt hjm]
                  obtain ⟨ao', ko', rfl⟩ := own_slice HOO.out
                  clear hx hd hs hg5
                  go_wp2_with fail
                  have kj : (j : Int) < (t.h1.length : Int) := by omega
                  have hgw : g < wr.heap.size := (HO1.out.lt g rfl).2
                  have hne1 : (Value.slice ao' t.o.length ko').ownBlock ≠ some Hb := fun e => HLP.out.so Hb e rfl
                  have hne2 : (Value.slice ao' t.o.length ko').ownBlock ≠ some g := (HLP.out.s1 g rfl).2
                  have HNE1 := Lib.hid hne1
                  have HNE2 := Lib.hid hne2
                  have hHw : Hb < wr.heap.size := lt_of_block HHh.out
                  have hOw : O < wr.heap.size := HLP.out.ob.lt
                  generalize hyy : t.h1.getD j 0 = y at *
                  have SB : Hid (∀ w', Below wr.heap.size wr w' → w'.cell? ⟨O, 2, none⟩ = some (.slice ao' t.o.length ko') ∧ w'.cell? ⟨Hb, 1, none⟩ = some (.slice (some ⟨g, 0, none⟩) t.h1.length cg) ∧ w'.cell? ⟨g, j, none⟩ = some (.int .i64 y)) := fun w' hb => ⟨(World.cell?_of_block (hb.block _ hOw)).trans x2, (World.cell?_of_block (hb.block _ hHw)).trans b1, (World.cell?_of_block (hb.block _ hgw)).trans cj⟩
                  have SG : Hid (∀ w', (wr.drew.alloc (.cells #[.int .i64 y] 3)).grownBy w' (Value.slice ao' t.o.length ko').ownBlock → w'.cell? ⟨O, 2, none⟩ = some (.slice ao' t.o.length ko') ∧ w'.cell? ⟨Hb, 1, none⟩ = some (.slice (some ⟨g, 0, none⟩) t.h1.length cg) ∧ w'.cell? ⟨g, j, none⟩ = some (.int .i64 y)) := fun w' hg => by
                    obtain ⟨q1, q2, q3⟩ := SB.out _ (((Below.refl wr.heap.size wr).drew).alloc (Nat.le_refl _) (.cells #[.int .i64 y] 3))
                    refine ⟨(hg.cell_far _ (by simp; omega) (fun e => ?_)).trans q1, (hg.cell_far _ (by simp; omega) (fun e => HNE1.out e.symm)).trans q2, (hg.cell_far _ (by simp; omega) (fun e => HNE2.out e.symm)).trans q3⟩
                    have := (HOO.out.lt O e.symm).1
                    omega
                  have HGF : Hid (∀ w', (wr.drew.alloc (.cells #[.int .i64 y] 3)).grownBy w' (Value.slice ao' t.o.length ko').ownBlock → w'.frozen? ⟨O, 2, none⟩ = false) := fun w' hg => (HLP.out.ob.below (undrew (grown_below (w := wr.drew) hg HOO.out (Below.refl _ _) (Nat.le_refl _) hBwr)) (by omega)).fr 2
                  clear hne1 hne2 hyy
                  have HQ1 : Hid (O + 1 < B) := by show _ < _; omega
                  have HQ2 := Lib.hid HBw4.out
                  have HQ3 : Hid (w.heap.size + 2 ≠ O ∧ w.heap.size + 2 ≠ O + 1 ∧ w.heap.size ≤ O) := HZOO
                  go_cut [] from 91 to 159 (fun wx => ∃ vo', Hid (LP B O Hb (w.heap.size + 2) ra (ca + cb) w wx ⟨t.l0, t.l1, t.h0, t.h1, t.o ++ [y]⟩ vo' v0 (.slice (some ⟨g, 0, none⟩) t.h1.length cg)))
                  case first =>
                    go_region_law ((refine step_append_lies _ (by rfl) _ _ _ (by rfl) B 3 i3 _ 1 8 Try.underlying26 hi3 hz0 hz1 hz2 rfl (by omega) (.slice ao' t.o.length ko') t.o.length (t.o.map (Value.int .i64)) (by rfl) (World.ownsRow.alloc (w := wr.drew) HOO.out _) ⟨wr.heap.size, 0, none⟩ 1 1 [.int .i64 y] (by rfl) (by rfl) (World.news_of_block (cs := #[.int .i64 y]) (t := 3) (fr := (0, 0)) (heap_alloc_new wr.drew _)) (by simp [Value.oneCell']) (by omega) (by unfold maxLen; omega) (by omega) (by simp; omega) (wr.heap.size + 1) (by simp) ?_; intro gg cap6 w6 hown6 hgrow hat6 hlt6; have ff := HGF.out _ hgrow; have f2 := (SG.out _ hgrow).1))
                    all_goals
                      go_wp2_with fail
                      go_meet
                      exact ⟨_, HLP.out.push HQ1.out HQ2.out HQ3.out.1 HQ3.out.2.2 hBwr hown6 hgrow (by rcases hat6 with e | e; exact .inl e.symm; exact .inr (by rw [e]; rfl))⟩
                  case rest =>
                    obtain ⟨vo', HLP2⟩ := hcut
                    have HDL : Hid (∀ X, X.ownsRow B 3 1 (.slice (some ⟨g, 0, none⟩) t.h1.length cg) t.h1.length (t.h1.map (Value.int .i64)) → Calls Try.prog 14 #[.slice (some ⟨g, 0, none⟩) t.h1.length cg, .int .i64 j, .int .i64 ((j : Int) + 1)] X fun e w' => e = .returned (.slice (some ⟨g, 0, none⟩) (t.h1.length - 1) cg) ∧ w'.ownsRow B 3 1 (.slice (some ⟨g, 0, none⟩) (t.h1.length - 1) cg) (t.h1.length - 1) ((t.h1.eraseIdx j).map (Value.int .i64)) ∧ X.grownBy w' (some g)) := fun X hX => del_own hX j hjm _ rfl
                    clear a0 a1 b0 b1 x0 x2 cw co cj SB SG HGF
                    have bs := cell_of_row _ _ 1 _ _ _ HLP2.out.hb
                    simp at bs
                    have hj4 : j ≤ 400 := by have h1 := HKP.out.n1; have h2 : (st0 ca cb la lb).h1.length = nb := HLB.out; omega
                    have hjw : IntKind.i64.wrap ((j : Int) + 1) = (j : Int) + 1 := by rw [IntKind.wrap_i64]; omega
                    have HOS := Lib.hid HLP2.out.o1
                    have HHw2 := Lib.hid (lt_of_block HLP2.out.hb)
                    have HGN : Hid (some Hb ≠ some g) := fun e => by cases e; exact (HLP2.out.s1 Hb rfl).1 rfl
                    go_wp2_with fail
                    refine (HDL.out _ HOS.out).mono ?_
                    rintro e w7 ⟨rfl, ho7, hg7⟩
                    have HLP3 := Lib.hid (HLP2.out.del1 HQ1.out HQ2.out HQ3.out.2.2 ho7 hg7)
                    have HLP4 := Lib.hid (HLP3.out.left1 HQ1.out HQ3.out.2.1 HQ3.out.2.2 (t.l1 - 1))
                    have hb7 := (hg7.block Hb HHw2.out HGN.out).trans HLP2.out.hb
                    have hl7 : w7.heap[O + 1]? = some (.cells #[.int .i64 (t.l0 : Nat), .int .i64 (t.l1 : Nat)] 46 (0, 0)) := (hg7.block (O + 1) (lt_of_block HLP2.out.lb) (by have := (HOS.out.lt g rfl).1; have := HQ1.out; simp; omega)).trans HLP2.out.lb
                    have k7 := cell_of_row _ _ 1 _ _ _ hb7
                    have f7 := free_of_row _ _ 1 _ _ hb7
                    have a7 := cell_of_row _ _ 1 _ _ _ hl7
                    have g7 := free_of_row _ _ 1 _ _ hl7
                    simp at k7 a7
                    have n7 : ¬ Hb = O + 1 := by have := HLP2.out.bh; have := HQ1.out; omega
                    have n8 : ¬ O + 1 = Hb := by omega
                    have hlx := HLX.out
                    have HLC : Hid (((t.l1 - 1 : Nat) : Int) = (t.l1 : Int) - 1) := by show _ = _; omega
                    have hlw : IntKind.i64.wrap ((t.l1 : Int) - 1) = (t.l1 : Int) - 1 := by rw [IntKind.wrap_i64]; omega
                    rw [HLC.out] at HLP4
                    clear hb7 hl7 ho7 hg7 bs
                    go_wp2_with fail
                    go_roundw
                    case rel => exact ⟨k + 1, _, _, _, _, by omega, by go_num, HYES.out, HLP4.out⟩
                    case measure => simp [intOf]; omega
              · have p4 : decide ((t.l0 : Int) ≤ d) = false := decide_eq_false hs
                by_cases hx : x < 0 ∨ (t.h0.length : Int) ≤ x
                · have HNO : Hid (prun (st0 ca cb la lb) wh wo (k + 1) = none) := by
                    show _ = _
                    rw [HPS.out]; unfold pstep
                    rw [if_neg hd, if_neg hs, if_pos hx]
                  by_cases hx0 : x < 0
                  · have p2 : decide (x < 0) = true := decide_eq_true hx0
                    clear hx hx0 hd hs
                    go_wp2_with fail
                    refine (no_ok 2 _).mono ?_
                    rintro e w9 ⟨rfl, hb9⟩
                    have HB9 := Lib.hid (HBE.out.trans (hb9.mono HBE.out.size))
                    have HZ9 := Lib.hid (HZE.out.below hb9 HZE.out.lt)
                    clear hb9
                    have e0 := HZ9.out.c0
                    have e1 := HZ9.out.c1
                    have e2 := HZ9.out.c2
                    have f0 := HZ9.out.fr 0
                    have f1 := HZ9.out.fr 1
                    have f2 := HZ9.out.fr 2
                    go_wp2_with ((with_reducible refine bodyPost_ret (ret_pool rfl _ _ (w.heap.size + 2) rfl (((HZ9.out.set0 0).set1 0).set2 (.slice none 0 0)) ⟨_, _, _, rfl⟩) rfl ?_); exact HP.out _ _ 2 (HE2.out _ HNO.out (by omega)) (by decide) (((HB9.out.setCell (by show _ ≤ w.heap.size + 2; omega) _).setCell (by show _ ≤ w.heap.size + 2; omega) _).setCell (by show _ ≤ w.heap.size + 2; omega) _) rfl)
                  · have p2 : decide (x < 0) = false := decide_eq_false hx0
                    have p3 : decide ((t.h0.length : Int) ≤ x) = true := decide_eq_true (by omega)
                    have hvl := own_slice HO0.out
                    obtain ⟨av, kv, rfl⟩ := hvl
                    clear hx hx0 hd hs
                    generalize t.h0.length = m at *
                    go_wp2_with fail
                    refine (no_ok 2 _).mono ?_
                    rintro e w9 ⟨rfl, hb9⟩
                    have HB9 := Lib.hid (HBE.out.trans (hb9.mono HBE.out.size))
                    have HZ9 := Lib.hid (HZE.out.below hb9 HZE.out.lt)
                    clear hb9
                    have e0 := HZ9.out.c0
                    have e1 := HZ9.out.c1
                    have e2 := HZ9.out.c2
                    have f0 := HZ9.out.fr 0
                    have f1 := HZ9.out.fr 1
                    have f2 := HZ9.out.fr 2
                    go_wp2_with ((with_reducible refine bodyPost_ret (ret_pool rfl _ _ (w.heap.size + 2) rfl (((HZ9.out.set0 0).set1 0).set2 (.slice none 0 0)) ⟨_, _, _, rfl⟩) rfl ?_); exact HP.out _ _ 2 (HE2.out _ HNO.out (by omega)) (by decide) (((HB9.out.setCell (by show _ ≤ w.heap.size + 2; omega) _).setCell (by show _ ≤ w.heap.size + 2; omega) _).setCell (by show _ ≤ w.heap.size + 2; omega) _) rfl)
                · obtain ⟨j, rfl⟩ : ∃ j : Nat, x = j := ⟨x.toNat, by omega⟩
                  have p2 : decide ((j : Int) < 0) = false := decide_eq_false (by omega)
                  have hjm : j < t.h0.length := by omega
                  have HYES : Hid (prun (st0 ca cb la lb) wh wo (k + 1) = some ⟨t.l0 - 1, t.l1, t.h0.eraseIdx j, t.h1, t.o ++ [t.h0.getD j 0]⟩) := by
                    show _ = _
                    rw [HPS.out]; unfold pstep
                    rw [if_neg hd, if_neg hs, if_neg hx]
                    simp
                  have hlm := HKP.out.n0
                  obtain ⟨g, cg, rfl, hg1, hg2, hg3, hg4, hg5⟩ := own_open HO0.out (by omega : 0 < t.h0.length)
                  have cj := own_get HO0.out j hjm
                  have HLX : Hid (0 < t.l0) := by show _ < _; omega
                  have HEL : Hid ((t.h0.eraseIdx j).length = t.h0.length - 1) := by show _ = _; rw [List.length_eraseIdx_of_lt hjm]
                  obtain ⟨ao', ko', rfl⟩ := own_slice HOO.out
                  clear hx hd hs hg5
                  go_wp2_with fail
                  have kj : (j : Int) < (t.h0.length : Int) := by omega
                  have hgw : g < wr.heap.size := (HO0.out.lt g rfl).2
                  have hne1 : (Value.slice ao' t.o.length ko').ownBlock ≠ some Hb := fun e => HLP.out.so Hb e rfl
                  have hne2 : (Value.slice ao' t.o.length ko').ownBlock ≠ some g := (HLP.out.s0 g rfl).2.2
                  have HNE1 := Lib.hid hne1
                  have HNE2 := Lib.hid hne2
                  have hHw : Hb < wr.heap.size := lt_of_block HHh.out
                  have hOw : O < wr.heap.size := HLP.out.ob.lt
                  generalize hyy : t.h0.getD j 0 = y at *
                  have SB : Hid (∀ w', Below wr.heap.size wr w' → w'.cell? ⟨O, 2, none⟩ = some (.slice ao' t.o.length ko') ∧ w'.cell? ⟨Hb, 0, none⟩ = some (.slice (some ⟨g, 0, none⟩) t.h0.length cg) ∧ w'.cell? ⟨g, j, none⟩ = some (.int .i64 y)) := fun w' hb => ⟨(World.cell?_of_block (hb.block _ hOw)).trans x2, (World.cell?_of_block (hb.block _ hHw)).trans b0, (World.cell?_of_block (hb.block _ hgw)).trans cj⟩
                  have SG : Hid (∀ w', (wr.drew.alloc (.cells #[.int .i64 y] 3)).grownBy w' (Value.slice ao' t.o.length ko').ownBlock → w'.cell? ⟨O, 2, none⟩ = some (.slice ao' t.o.length ko') ∧ w'.cell? ⟨Hb, 0, none⟩ = some (.slice (some ⟨g, 0, none⟩) t.h0.length cg) ∧ w'.cell? ⟨g, j, none⟩ = some (.int .i64 y)) := fun w' hg => by
                    obtain ⟨q1, q2, q3⟩ := SB.out _ (((Below.refl wr.heap.size wr).drew).alloc (Nat.le_refl _) (.cells #[.int .i64 y] 3))
                    refine ⟨(hg.cell_far _ (by simp; omega) (fun e => ?_)).trans q1, (hg.cell_far _ (by simp; omega) (fun e => HNE1.out e.symm)).trans q2, (hg.cell_far _ (by simp; omega) (fun e => HNE2.out e.symm)).trans q3⟩
                    have := (HOO.out.lt O e.symm).1
                    omega
                  have HGF : Hid (∀ w', (wr.drew.alloc (.cells #[.int .i64 y] 3)).grownBy w' (Value.slice ao' t.o.length ko').ownBlock → w'.frozen? ⟨O, 2, none⟩ = false) := fun w' hg => (HLP.out.ob.below (undrew (grown_below (w := wr.drew) hg HOO.out (Below.refl _ _) (Nat.le_refl _) hBwr)) (by omega)).fr 2
                  clear hne1 hne2 hyy
                  have HQ1 : Hid (O + 1 < B) := by show _ < _; omega
                  have HQ2 := Lib.hid HBw4.out
                  have HQ3 : Hid (w.heap.size + 2 ≠ O ∧ w.heap.size + 2 ≠ O + 1 ∧ w.heap.size ≤ O) := HZOO
                  go_cut [] from 91 to 159 (fun wx => ∃ vo', Hid (LP B O Hb (w.heap.size + 2) ra (ca + cb) w wx ⟨t.l0, t.l1, t.h0, t.h1, t.o ++ [y]⟩ vo' (.slice (some ⟨g, 0, none⟩) t.h0.length cg) v1))
                  case first =>
                    go_region_law ((refine step_append_lies _ (by rfl) _ _ _ (by rfl) B 3 i3 _ 1 8 Try.underlying26 hi3 hz0 hz1 hz2 rfl (by omega) (.slice ao' t.o.length ko') t.o.length (t.o.map (Value.int .i64)) (by rfl) (World.ownsRow.alloc (w := wr.drew) HOO.out _) ⟨wr.heap.size, 0, none⟩ 1 1 [.int .i64 y] (by rfl) (by rfl) (World.news_of_block (cs := #[.int .i64 y]) (t := 3) (fr := (0, 0)) (heap_alloc_new wr.drew _)) (by simp [Value.oneCell']) (by omega) (by unfold maxLen; omega) (by omega) (by simp; omega) (wr.heap.size + 1) (by simp) ?_; intro gg cap6 w6 hown6 hgrow hat6 hlt6; have ff := HGF.out _ hgrow; have f2 := (SG.out _ hgrow).1))
                    all_goals
                      go_wp2_with fail
                      go_meet
                      exact ⟨_, HLP.out.push HQ1.out HQ2.out HQ3.out.1 HQ3.out.2.2 hBwr hown6 hgrow (by rcases hat6 with e | e; exact .inl e.symm; exact .inr (by rw [e]; rfl))⟩
                  case rest =>
                    obtain ⟨vo', HLP2⟩ := hcut
                    have HDL : Hid (∀ X, X.ownsRow B 3 1 (.slice (some ⟨g, 0, none⟩) t.h0.length cg) t.h0.length (t.h0.map (Value.int .i64)) → Calls Try.prog 14 #[.slice (some ⟨g, 0, none⟩) t.h0.length cg, .int .i64 j, .int .i64 ((j : Int) + 1)] X fun e w' => e = .returned (.slice (some ⟨g, 0, none⟩) (t.h0.length - 1) cg) ∧ w'.ownsRow B 3 1 (.slice (some ⟨g, 0, none⟩) (t.h0.length - 1) cg) (t.h0.length - 1) ((t.h0.eraseIdx j).map (Value.int .i64)) ∧ X.grownBy w' (some g)) := fun X hX => del_own hX j hjm _ rfl
                    clear a0 a1 b0 b1 x0 x2 cw co cj SB SG HGF
                    have bs := cell_of_row _ _ 0 _ _ _ HLP2.out.hb
                    simp at bs
                    have hj4 : j ≤ 400 := by have h1 := HKP.out.n0; have h2 : (st0 ca cb la lb).h0.length = na := HLA.out; omega
                    have hjw : IntKind.i64.wrap ((j : Int) + 1) = (j : Int) + 1 := by rw [IntKind.wrap_i64]; omega
                    have HOS := Lib.hid HLP2.out.o0
                    have HHw2 := Lib.hid (lt_of_block HLP2.out.hb)
                    have HGN : Hid (some Hb ≠ some g) := fun e => by cases e; exact (HLP2.out.s0 Hb rfl).1 rfl
                    go_wp2_with fail
                    refine (HDL.out _ HOS.out).mono ?_
                    rintro e w7 ⟨rfl, ho7, hg7⟩
                    have HLP3 := Lib.hid (HLP2.out.del0 HQ1.out HQ2.out HQ3.out.2.2 ho7 hg7)
                    have HLP4 := Lib.hid (HLP3.out.left0 HQ1.out HQ3.out.2.1 HQ3.out.2.2 (t.l0 - 1))
                    have hb7 := (hg7.block Hb HHw2.out HGN.out).trans HLP2.out.hb
                    have hl7 : w7.heap[O + 1]? = some (.cells #[.int .i64 (t.l0 : Nat), .int .i64 (t.l1 : Nat)] 46 (0, 0)) := (hg7.block (O + 1) (lt_of_block HLP2.out.lb) (by have := (HOS.out.lt g rfl).1; have := HQ1.out; simp; omega)).trans HLP2.out.lb
                    have k7 := cell_of_row _ _ 0 _ _ _ hb7
                    have f7 := free_of_row _ _ 0 _ _ hb7
                    have a7 := cell_of_row _ _ 0 _ _ _ hl7
                    have g7 := free_of_row _ _ 0 _ _ hl7
                    simp at k7 a7
                    have n7 : ¬ Hb = O + 1 := by have := HLP2.out.bh; have := HQ1.out; omega
                    have n8 : ¬ O + 1 = Hb := by omega
                    have hlx := HLX.out
                    have HLC : Hid (((t.l0 - 1 : Nat) : Int) = (t.l0 : Int) - 1) := by show _ = _; omega
                    have hlw : IntKind.i64.wrap ((t.l0 : Int) - 1) = (t.l0 : Int) - 1 := by rw [IntKind.wrap_i64]; omega
                    rw [HLC.out] at HLP4
                    clear hb7 hl7 ho7 hg7 bs
                    go_wp2_with fail
                    go_roundw
                    case rel => exact ⟨k + 1, _, _, _, _, by omega, by go_num, HYES.out, HLP4.out⟩
                    case measure => simp [intOf]; omega
          · obtain rfl : k = n := by omega
            obtain ⟨ao', ko', rfl⟩ := own_slice HLP.out.oo
            have x0 := HLP.out.ob.c0
            have x1 := HLP.out.ob.c1
            have x2 := HLP.out.ob.c2
            have z0 := HZE.out.c0
            have z1 := HZE.out.c1
            have z2 := HZE.out.c2
            have y0 := HZE.out.fr 0
            have y1 := HZE.out.fr 1
            have y2 := HZE.out.fr 2
            have HFN : Hid (∀ e w', Below w.heap.size w w' → e = .returned (.tuple #[.agg #[.int .i64 ra, .int .i64 (ca + cb), .slice ao' t.o.length ko'], .int .i64 0]) → w'.ownsRow w.heap.size 3 1 (.slice ao' t.o.length ko') t.o.length (t.o.map (Value.int .i64)) → PoolsPost w ra ca ra cb la lb wh wo e w') := fun e w' hb he hr => ⟨hb, .inl ⟨HE0.out t HPR.out, t, _, by rw [HNN.out]; exact HPR.out, he, hr⟩⟩
            have HRo := Lib.hid HLP.out.oo
            have HBw : Hid (w.heap.size ≤ B) := by have := HBw4.out; show _ ≤ _; omega
            have HB2 := Lib.hid HBw4.out
            go_wp2_with ((with_reducible refine bodyPost_ret (ret_pool rfl _ _ (w.heap.size + 2) rfl (((HZE.out.set0 ra).set1 (ca + cb)).set2 (.slice ao' t.o.length ko')) ⟨_, _, _, rfl⟩) rfl ?_); exact HFN.out _ _ (((HBE.out.setCell (by show _ ≤ w.heap.size + 2; omega) _).setCell (by show _ ≤ w.heap.size + 2; omega) _).setCell (by show _ ≤ w.heap.size + 2; omega) _) rfl (own_base (own_store (own_store (own_store HRo.out HB2.out _) HB2.out _) HB2.out _) HBw.out))
end Go.Proofs.Ytkebahdapkjacaa
