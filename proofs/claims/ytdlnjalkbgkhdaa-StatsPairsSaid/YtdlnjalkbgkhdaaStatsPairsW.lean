/- The walk of StatsPairs. No condition beyond rows within the reach. -/
import Derived.Test.YtdlnjalkbgkhdaaAl
import Derived.Test.YtdlnjalkbgkhdaaPsp
import Derived.Test.YtdlnjalkbgkhdaaClone
set_option linter.unusedSimpArgs false
set_option linter.unusedVariables false
namespace Go.Proofs.Ytdlnjalkbgkhdaa.statsPairs
open Go.RowKit Go.Proofs.Ytdlnjalkbgkhdaa
set_option maxHeartbeats 1600000 in
theorem run (v : Value) (zs : List Int) (w : World) (h : Rd w v zs) (hr : zs.length * 8 ≤ 140737488351232) :
    Calls Try.prog 6 #[v] w fun e w' => e = .returned (.bool true) ∧ Below w.heap.size w w' := by
  have HR := Lib.hid h
  obtain ⟨a, cap, he1, -⟩ := h.open
  obtain ⟨n, hn⟩ : ∃ n, zs.length = n := ⟨_, rfl⟩
  have HN := Lib.hid hn
  rw [hn] at he1
  by_cases hx : OkL zs
  · have hrx := right_of hx.2 (by have := hx.1; omega)
    have HO := Lib.hid (fun w1 hb1 => of_good v zs w1 (HR.out.below (w' := w1) hb1 (Nat.le_refl _)) hx)
    have HPS := Lib.hid (fun w1 hb1 => psp_any v zs w1 (HR.out.below (w' := w1) hb1 (Nat.le_refl _)) hx)
    have HS := Lib.hid (fun w1 => spread_any _ _ _ w1 hrx)
    have HRT := Lib.hid (fun w1 => right_any _ _ _ w1 hrx)
    have HCL := Lib.hid (fun w1 hb1 => clone_any v zs w1 (HR.out.below (w' := w1) hb1 (Nat.le_refl _)) (by omega))
    have HCP := Lib.hid (fun base v' w1 h1 => compact_any base v' n zs w1 h1 hn (by omega))
    have HLW := Lib.hid (cpt_law zs)
    rw [spr_eq] at HS
    unfold mv at HO HS HRT
    rw [hn] at HO HS HRT HCL
    generalize spr zs = s at *
    generalize sm zs = s1 at *
    generalize sq zs = q1 at *
    obtain ⟨cl, hcl⟩ : ∃ c, (Lib.compact zs).length = c := ⟨_, rfl⟩
    rw [hcl] at HCP HLW
    have HT : Hid (((s == 0) == decide ((cl : Int) ≤ 1)) = true) := by
      show _ = _
      by_cases g : s = 0
      · have := HLW.out.1 g
        rw [decide_eq_true (by omega), beq_iff_eq.2 g]; rfl
      · have : ¬ cl ≤ 1 := fun h => g (HLW.out.2 h)
        rw [decide_eq_false (by omega), beq_eq_false_iff_ne.2 g]; rfl
    clear hrx hx hn h hr hcl HLW
    subst he1
    go_enter Try.func6, Try.ntmps6
    go_wp2_with fail
    refine (alive_any w).mono ?_
    rintro e w1 ⟨rfl, hb1⟩
    have HB1 := Lib.hid hb1
    have HC := Lib.hid (HO.out w1 hb1)
    clear hb1
    go_wp2_with fail
    refine HC.out.mono ?_
    rintro e w5 ⟨rfl, hb5⟩
    have HB5 := Lib.hid (HB1.out.trans (hb5.mono HB1.out.size))
    obtain ⟨w6, hw6⟩ : ∃ w6, w5.alloc (.cells #[.int .i64 (n : Int), .int .i64 s1, .int .i64 q1] 28) = w6 := ⟨_, rfl⟩
    have hb6 : Below w.heap.size w w6 := by rw [← hw6]; exact HB5.out.alloc HB5.out.size _
    have HB6 := Lib.hid hb6
    have HK := Lib.hid (kept3 hw6)
    have HC := Lib.hid (HS.out w6)
    have HW6 := Lib.hid hw6
    clear hb5 hb6 hw6
    go_wp2_with fail
    rw [HW6.out]
    obtain ⟨B5, hB5⟩ : ∃ B, w5.heap.size = B := ⟨_, rfl⟩
    rw [hB5] at HK ⊢
    clear HW6 hB5
    refine HC.out.mono ?_
    rintro e w7 ⟨rfl, hb7⟩
    have HX7 := Lib.hid hb7
    have hb7' := HB6.out.trans (hb7.mono HB6.out.size)
    have HB7 := Lib.hid hb7'
    have HC := Lib.hid (HPS.out w7 hb7')
    clear hb7 hb7'
    go_wp2_with fail
    refine HC.out.mono ?_
    rintro e w8 ⟨rfl, hb8⟩
    have HX8 := Lib.hid (HX7.out.trans (hb8.mono HX7.out.size))
    have HB8 := Lib.hid (HB7.out.trans (hb8.mono HB7.out.size))
    obtain ⟨c0, c1, c2⟩ := HK.out w8 HX8.out
    have HC := Lib.hid (HRT.out w8)
    have t0 : (s == s) = true := by simp
    clear hb8
    go_wp2_with fail
    refine HC.out.mono ?_
    rintro e w9 ⟨rfl, hb9⟩
    have hb9' := HB8.out.trans (hb9.mono HB8.out.size)
    have HB9 := Lib.hid hb9'
    have HC := Lib.hid (HCL.out w9 hb9')
    clear hb9 hb9' c0 c1 c2
    go_wp2_with fail
    refine HC.out.mono ?_
    rintro e w10 ⟨v10, rfl, ho10, hb10⟩
    have HB10 := Lib.hid (HB9.out.trans (hb10.mono HB9.out.size))
    have HC := Lib.hid (HCP.out w.heap.size v10 w10 (own_base ho10 HB9.out.size))
    clear hb10 ho10
    go_wp2_with fail
    refine HC.out.mono ?_
    rintro e w11 ⟨⟨a11, c11, rfl⟩, hb11⟩
    have HB11 := Lib.hid (HB10.out.trans hb11)
    have t1 := HT.out
    clear hb11 HC HO HPS HS HRT HCL HCP HT
    go_wp2_with fail
    go_ret
    exact ⟨rfl, HB11.out⟩
  · have HO := Lib.hid (fun w1 hb1 => of_bad v zs w1 (HR.out.below (w' := w1) hb1 (Nat.le_refl _)) hx)
    unfold mv at HO
    clear hx hn h hr
    subst he1
    go_enter Try.func6, Try.ntmps6
    go_wp2_with fail
    refine (alive_any w).mono ?_
    rintro e w1 ⟨rfl, hb1⟩
    have HB1 := Lib.hid hb1
    have HC := Lib.hid (HO.out w1 hb1)
    clear hb1
    go_wp2_with fail
    refine HC.out.mono ?_
    rintro e w5 ⟨rfl, hb5⟩
    have HB5 := Lib.hid (HB1.out.trans (hb5.mono HB1.out.size))
    clear hb5 HC HO
    go_wp2_with fail
    go_ret
    exact ⟨rfl, HB5.out.alloc HB5.out.size _⟩
theorem walk (a0 : Option Addr) (len0 cap0 : Nat) (z0 : List Int) (w : World) (w0 : IsRow .i64 w a0 len0 cap0 z0) (r0 : len0 * 8 ≤ 140737488351232) :
    Calls Try.prog 6 #[.slice a0 len0 cap0] w fun e w' => e = .returned (.bool true) ∧ Below w.heap.size w w' := by
  obtain ⟨h1, -⟩ := w0.rd
  have hl : (z0.take len0).length = len0 := by
    obtain ⟨a', c', he, -⟩ := h1.open
    injection he with _ h5 _
    exact h5.symm
  exact run _ _ w h1 (by rw [hl]; exact r0)
end Go.Proofs.Ytdlnjalkbgkhdaa.statsPairs
