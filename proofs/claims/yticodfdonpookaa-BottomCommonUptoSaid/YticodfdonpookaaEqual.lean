/- slices.Equal at []int: what it answers. No condition. -/
import Derived.Test.YticodfdonpookaaGen
set_option linter.unusedSimpArgs false
set_option linter.unusedVariables false
set_option maxRecDepth 20000
namespace Go.Proofs.Yticodfdonpookaa
open Go.RowKit
theorem eq_of_get {zs ys : List Int} {n : Nat} (h1 : zs.length = n) (h2 : ys.length = n) (h : ∀ j, j < n → zs.getD j 0 = ys.getD j 0) : zs = ys := by
  apply List.ext_getElem (by omega)
  intro i hi hi'
  have := h i (by omega)
  simpa [List.getD_eq_getElem?_getD, hi, hi'] using this
set_option maxHeartbeats 400000 in
/-- slices.Equal answers whether the lists are one. -/
theorem equal_any (v v' : Value) (zs ys : List Int) (w : World) (h : Rd w v zs) (h' : Rd w v' ys) : Calls Try.prog 12 #[v, v'] w fun e w' => e = .returned (.bool (decide (zs = ys))) ∧ Below w.heap.size w w' := by
  obtain ⟨a, cap, rfl, hlc, hcm, hop⟩ := h.open
  obtain ⟨a', cap', rfl, hlc', hcm', hop'⟩ := h'.open
  clear h h'
  have HO := Lib.hid hop; clear hop
  have HO' := Lib.hid hop'; clear hop'
  by_cases hl : zs.length = ys.length
  · have HZ := Lib.hid (rfl : zs.length = zs.length)
    have HY := Lib.hid (rfl : ys.length = ys.length)
    generalize hn : zs.length = n at *
    generalize hm : ys.length = m at *
    subst hl
    clear HZ HY
    have HN := Lib.hid hn; clear hn
    have HM := Lib.hid hm; clear hm
    have hself : ((n : Int) != (n : Int)) = false := by simp
    go_enter Try.func12, Try.ntmps12
    go_wp2_with fail
    go_loopw [13] (fun i wr => ∃ k : Nat, k ≤ n ∧ i = .int .i64 k ∧ Hid (∀ j, j < k → zs.getD j 0 = ys.getD j 0) ∧ Below w.heap.size w wr) (fun i _ => n - (intOf i).toNat)
    case atStart => exact ⟨0, Nat.zero_le _, rfl, fun j hj => by omega, Below.refl _ _⟩
    case round =>
      obtain ⟨k, hk, rfl, hsame, hbel⟩ := hrel
      by_cases hlt : k < n
      · obtain ⟨b, off, rfl, hb, hc⟩ := HO.out 0 (by omega)
        obtain ⟨b', off', rfl, hb', hc'⟩ := HO'.out 0 (by omega)
        have c1 : wr.cell? ⟨b, off + k, none⟩ = some (.int .u64 (zs.getD k 0)) := (hbel.cell (p := ⟨b, off + k, none⟩) hb).trans (hc k (by omega))
        have c2 : wr.cell? ⟨b', off' + k, none⟩ = some (.int .u64 (ys.getD k 0)) := (hbel.cell (p := ⟨b', off' + k, none⟩) hb').trans (hc' k (by omega))
        clear hc hc'
        have hki : (k : Int) < (n : Int) := by omega
        generalize hx : zs.getD k 0 = x at *
        generalize hy : ys.getD k 0 = y at *
        have HX := Lib.hid hx; clear hx
        have HY := Lib.hid hy; clear hy
        by_cases hxy : x = y
        · subst hxy
          have hs2 : (x != x) = false := by simp
          go_wp2_with fail
          go_quiet (fail)
          go_wp2_with fail
          go_roundw
          case rel => exact ⟨k + 1, by omega, by go_num, fun j hj => by
            by_cases e : j = k
            · subst e; exact HX.out.trans HY.out.symm
            · exact hsame.out j (by omega), hbel.drewN _⟩
          case measure => simp [intOf]; omega
        · have hs2 : (x != y) = true := by simpa using hxy
          have HF : Hid (decide (zs = ys) = false) := by
            show decide (zs = ys) = false
            simp only [decide_eq_false_iff_not]
            intro e; apply hxy; rw [← HX.out, ← HY.out, e]
          go_wp2_with fail
          go_quiet (fail)
          go_wp2_with fail
          go_ret
          exact ⟨by rw [HF.out]; rfl, hbel.drewN _⟩
      · have HF : Hid (decide (zs = ys) = true) := by
          show decide (zs = ys) = true
          simp only [decide_eq_true_eq]
          exact eq_of_get HN.out HM.out fun j hj => hsame.out j (by omega)
        go_wp2_with fail
        go_ret
        exact ⟨by rw [HF.out]; rfl, hbel⟩
  · have HF : Hid (decide (zs = ys) = false) := by
      show decide (zs = ys) = false
      simp only [decide_eq_false_iff_not]
      intro e; apply hl; rw [e]
    have hne : ((zs.length : Int) != (ys.length : Int)) = true := by rw [bne_iff_ne]; omega
    go_enter Try.func12, Try.ntmps12
    go_wp2_with fail
    go_ret
    exact ⟨by rw [HF.out]; rfl, Below.refl _ _⟩
end Go.Proofs.Yticodfdonpookaa
