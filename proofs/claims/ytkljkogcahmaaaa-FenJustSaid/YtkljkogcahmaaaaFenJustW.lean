/- The walk of FenJust. No condition. -/
import Derived.Test.YtkljkogcahmaaaaAl
set_option linter.unusedSimpArgs false
set_option linter.unusedVariables false
namespace Go.Proofs.Ytkljkogcahmaaaa.fenJust
open Go.RowKit Go.Proofs.Ytkljkogcahmaaaa
def cnt (f : Nat → Nat) (n k : Nat) : Nat := min n (tot f (k + 1)) - min n (tot f k)
theorem cnt_end (f : Nat → Nat) {N k : Nat} (hk : k < N) : cnt f (tot f N) k = f k := by
  have h1 := tot_mono (f := f) (show k + 1 ≤ N by omega)
  have h2 := tot_mono (f := f) (show k ≤ N by omega)
  unfold cnt
  rw [tot] at h1 ⊢
  omega
theorem cnt_step (f : Nat → Nat) {n k : Nat} (ha : AtP f n k) (j : Nat) : cnt f (n + 1) j = if j = k then cnt f n k + 1 else cnt f n j := by
  unfold AtP at ha
  unfold cnt
  by_cases e : j = k
  · subst e; rw [if_pos rfl]; omega
  · rw [if_neg e]
    rcases Nat.lt_or_gt_of_ne e with h | h
    · have h1 := tot_mono (f := f) (show j + 1 ≤ k by omega)
      have h2 := tot_mono (f := f) (show j ≤ j + 1 by omega)
      omega
    · have h1 := tot_mono (f := f) (show k + 1 ≤ j by omega)
      have h2 := tot_mono (f := f) (show j ≤ j + 1 by omega)
      omega
theorem walk_bad (v : Value) (zs : List Int) (w : World) (h : Rd w v zs) (hk : ¬ OkL zs) :
    Calls Try.prog 3 #[v] w fun e w' => e = .returned (.bool true) ∧ Below w.heap.size w w' := by
  have HS := Lib.hid (fun w h => sums_bad v zs w h hk)
  have HR := Lib.hid h
  clear h hk
  go_enter Try.func3, Try.ntmps3
  go_wp2_with fail
  refine (alive_any _).mono ?_
  rintro e w1 ⟨rfl, hb1⟩
  have HB1 := Lib.hid hb1
  have HR1 := Lib.hid (HR.out.below hb1 (Nat.le_refl _))
  clear hb1
  go_wp2_with fail
  refine (HS.out _ HR1.out).mono ?_
  rintro e w2 ⟨rfl, rfl⟩
  go_wp2_with fail
  go_ret
  exact ⟨rfl, HB1.out⟩
set_option maxHeartbeats 1600000 in
theorem walk_ok (v : Value) (zs : List Int) (w : World) (h : Rd w v zs) (hk : OkL zs) :
    Calls Try.prog 3 #[v] w fun e w' => e = .returned (.bool true) ∧ Below w.heap.size w w' := by
  obtain ⟨i0, hinfo, hz0, hz1, hz2⟩ := info_parts Try.info3t
  have HR := Lib.hid h
  have HS := Lib.hid (fun w h => sums_ok v zs w h hk)
  have HPN := Lib.hid (fun n w h hn => pick_none v zs n w h hk hn)
  have HPA := Lib.hid (fun n k w h hkl ha => pick_at v zs n k w h hk hkl ha)
  have HEQ := Lib.hid (fun v2 w h h2 => equal_any v2 v zs zs w h h2)
  have HTB : Hid (∀ i, i ≤ 400 → tot (nd zs) i ≤ 429496729600) := fun i hi => tot_cap hk.le hi
  have hl := hk.1
  have L1 : (sumsL zs).length = zs.length + 1 := tabI_len _ _
  have G1 : Hid (∀ i, i < zs.length + 1 → (sumsL zs).getD i 0 = (tot (nd zs) i : Int)) := fun i hi => tabI_get _ _ _ hi
  have HZ : Hid (zs = tabI zs.length (cnt (nd zs) (tot (nd zs) zs.length))) := by
    apply List.ext_getElem (by rw [tabI_len])
    intro i h1 h2
    have e := hk.nd h1
    rw [List.getD_eq_getElem?_getD, List.getElem?_eq_getElem h1, Option.getD_some] at e
    rw [e]
    simp only [tabI, List.getElem_map, List.getElem_range]
    rw [cnt_end _ h1]
  have HAT : Hid (∀ n, n < tot (nd zs) zs.length → ∃ k, k < zs.length ∧ AtP (nd zs) n k) := fun n h => at_exists (nd zs) n zs.length h
  obtain ⟨a, cap, rfl, hlc, hcm, -⟩ := h.open
  generalize sumsL zs = l1 at *
  clear h hk
  go_enter Try.func3, Try.ntmps3
  go_wp2_with fail
  refine (alive_any _).mono ?_
  rintro e w1 ⟨rfl, hb1⟩
  have HB1 := Lib.hid hb1
  have HR1 := Lib.hid (HR.out.below hb1 (Nat.le_refl _))
  clear hb1
  go_wp2_with fail
  refine (HS.out _ HR1.out).mono ?_
  rintro e w2 ⟨hb2, u, rfl, hr2⟩
  have HB2 := Lib.hid (HB1.out.trans (hb2.mono HB1.out.size))
  have HR2 := Lib.hid (HR1.out.below hb2 (Nat.le_refl _))
  have HU2 := Lib.hid hr2
  obtain ⟨a1, q1, rfl, hlq1, hq1, hop1⟩ := hr2.open
  rw [L1] at hlq1 hop1 HU2 ⊢
  obtain ⟨b1, o1, rfl, hbl1, hcc1⟩ := hop1 zs.length (by omega)
  have HCC := Lib.hid hcc1
  have d1 := hcc1 zs.length (by omega)
  rw [G1.out _ (by omega)] at d1
  have tb := HTB.out zs.length (by omega)
  clear hb2 hr2 hop1 hcc1
  by_cases hS : 500 < tot (nd zs) zs.length
  · have f1 : decide (500 < (tot (nd zs) zs.length : Int)) = true := decide_eq_true (by omega)
    generalize tot (nd zs) zs.length = S at *
    go_wp2_with fail
    go_ret
    exact ⟨rfl, HB2.out⟩
  · have f1 : decide (500 < (tot (nd zs) zs.length : Int)) = false := decide_eq_false (by omega)
    have b2 : i0.bytes * zs.length ≤ 281474976710656 := by rw [hz2]; omega
    have b3 : zs.length ≤ maxLen := by unfold maxLen; omega
    have hSb : tot (nd zs) zs.length ≤ 500 := by omega
    have HSM : Hid (∀ k, k ≤ zs.length → tot (nd zs) k ≤ tot (nd zs) zs.length) := fun k hk => tot_mono hk
    generalize hSS : tot (nd zs) zs.length = S at *
    have HSS := Lib.hid hSS
    clear hSS hS
    go_wp2_with (refine wpList_make_full _ rfl _ _ 22 rfl w2.heap.size 3 i0 (.int .i64 0) 1 Try.underlying22 hinfo hz0 hz1 .i64 .i64 _ _ zs.length rfl rfl ?hL ?hC b2 b3 (Nat.le_refl _) ?_)
    case hL => simp
    case hC => simp
    intro w3 hown hgr
    have hb3 := ((Below.refl w2.heap.size w2).grown hgr (Nat.le_refl _) (fun k hk => by cases hk))
    have HB3 := Lib.hid hb3
    have HO := Lib.hid ((OI.made (g := w2.heap.size) hown).congr (f' := fun k => cnt (nd zs) 0 k) (fun k _ => by unfold cnt; simp))
    have d1 := (World.cell?_of_block (hb3.block b1 hbl1)).trans d1
    have HD1 := Lib.hid d1
    clear hown hgr b2 b3 hb3
    generalize hg : w2.heap.size = g at *
    have HG := Lib.hid hg
    clear hg
    go_wp2_with fail
    clear d1
    go_loopw [54, 6, 7, 8] (fun iv b c d wr => ∃ n : Nat, n ≤ S ∧ iv = .int .i64 n ∧ Below g w2 wr ∧ OI wr g g zs.length (cnt (nd zs) n)) (fun iv _ _ _ _ => S - (intOf iv).toNat)
    case atStart => exact ⟨0, Nat.zero_le _, rfl, HB3.out, HO.out⟩
    case round =>
      clear HB3 HO
      obtain ⟨n, hn, rfl, hbel, ho⟩ := hrel
      by_cases hlt : n < S
      · obtain ⟨k, hkl, hat⟩ := HAT.out n hlt
        have HP := Lib.hid (HPA.out n k wr (HR2.out.below hbel (by rw [HG.out]; exact Nat.le_refl _)) hkl hat)
        have HBE := Lib.hid hbel
        have HOO := Lib.hid ho
        have HAA := Lib.hid hat
        clear hbel ho hat
        go_wp2_with fail
        refine HP.out.mono ?_
        rintro e w4 ⟨rfl, hb4⟩
        have hb5 := HBE.out.trans (hb4.mono (HBE.out.size |> Nat.le_trans (by rw [HG.out]; exact Nat.le_refl _)))
        have ho5 := HOO.out.below hb4 (Nat.le_refl _)
        have dk := (World.cell?_of_block (hb5.block b1 hbl1)).trans (HCC.out k (by omega))
        have dk1 := (World.cell?_of_block (hb5.block b1 hbl1)).trans (HCC.out (k + 1) (by omega))
        rw [G1.out k (by omega)] at dk
        rw [G1.out (k + 1) (by omega)] at dk1
        have ct := ho5.get k hkl
        have fr := ho5.frozen k
        have hcb : cnt (nd zs) n k ≤ 500 := by unfold cnt; omega
        have HS5 := Lib.hid (OI.congr (ho5.set k (cnt (nd zs) n k + 1)) (f' := cnt (nd zs) (n + 1)) (fun j _ => (cnt_step (nd zs) HAA.out j).symm))
        have HB5 := Lib.hid (hb5.setCell (Nat.le_refl _) (p := ⟨g, k, none⟩) (.int .i64 ((cnt (nd zs) n k + 1 : Nat) : Int)))
        obtain ⟨t1, t2⟩ := HAA.out
        generalize tot (nd zs) k = A at *
        generalize tot (nd zs) (k + 1) = B at *
        generalize cnt (nd zs) n k = C at *
        have f2 : decide ((zs.length : Int) ≤ k) = false := decide_eq_false (by omega)
        have f3 : decide ((n : Int) < A) = false := decide_eq_false (by omega)
        have f4 : decide ((B : Int) ≤ n) = false := decide_eq_false (by omega)
        have f5 : decide (zs.length ≤ k) = false := decide_eq_false (by omega)
        have f6 : decide (n < A) = false := decide_eq_false (by omega)
        have f7 : decide (B ≤ n) = false := decide_eq_false (by omega)
        clear hb4 hb5 ho5
        go_wp2_with fail
        exact ⟨⟨n + 1, by omega, by go_num, HB5.out, HS5.out⟩, by simp [intOf]; omega⟩
      · have hnS : n = S := by omega
        have ds := (World.cell?_of_block (hbel.block b1 hbl1)).trans (HCC.out zs.length (by omega))
        rw [G1.out zs.length (by omega), HSS.out] at ds
        have ho2 : OI wr g g zs.length (cnt (nd zs) S) := by rw [← hnS]; exact ho
        have hrd := ho2.rd
        rw [← HZ.out] at hrd
        have HW := Lib.hid hrd
        have HBE := Lib.hid hbel
        have HVW := Lib.hid (HR2.out.below hbel (by rw [HG.out]; exact Nat.le_refl _))
        have HP := Lib.hid (HPN.out S wr HVW.out (by right; omega))
        have HLE := Lib.hid (HBE.out.size |> Nat.le_trans (by rw [HG.out]; exact Nat.le_refl _))
        clear ho ho2 hrd hbel
        subst hnS
        go_wp2_with fail
        refine HP.out.mono ?_
        rintro e w5 ⟨rfl, hb5⟩
        have HB5 := Lib.hid (HBE.out.trans (hb5.mono HLE.out))
        have HV5 := Lib.hid (HVW.out.below hb5 (Nat.le_refl _))
        have HW5 := Lib.hid (HW.out.below hb5 (Nat.le_refl _))
        clear hb5 ds
        go_wp2_with fail
        refine (HEQ.out _ _ HW5.out HV5.out).mono ?_
        rintro e w6 ⟨rfl, hb6⟩
        have HB6 := Lib.hid (HB5.out.trans (hb6.mono (by rw [← HG.out]; exact HB5.out.size)))
        clear hb6
        go_wp2_with fail
        go_ret
        exact ⟨by simp, HB2.out.trans (HB6.out.mono (by rw [← HG.out]; exact HB2.out.size))⟩
theorem walk (a0 : Option Addr) (len0 cap0 : Nat) (z0 : List Int) (w : World) (w0 : IsRow .i64 w a0 len0 cap0 z0) :
    Calls Try.prog 3 #[.slice a0 len0 cap0] w fun e w' => e = .returned (.bool true) ∧ Below w.heap.size w w' := by
  by_cases h : OkL (z0.take len0)
  · exact walk_ok _ _ w w0.rd.1 h
  · exact walk_bad _ _ w w0.rd.1 h
end Go.Proofs.Ytkljkogcahmaaaa.fenJust
