/- A slice of slices of ints that came in. No condition. -/
import Derived.Test.YtidnmdfpnmahpaaMat
import Derived.Deep.Matrix
import Derived.Deep.Matrix
set_option linter.unusedSimpArgs false
set_option linter.unusedVariables false
set_option maxRecDepth 20000
namespace Go.Proofs.Ytidnmdfpnmahpaa
open Go.RowKit
open ChangeShapes WideShapes in
theorem open_mat {H : Type} {enc : TypeId × Value → H} {W : World} {base : Nat} {v : Value} {d : DataW H} {p : List MemPlace} (hval : Value.okWide Try.prog W .any base 22 v)
    (h : DataW.Trod enc Try.prog W 0 (fun _ => true) true 22 v d p) (lt : ∀ x ∈ p, x.block < W.heap.size) :
    ∃ x : Option Addr × Nat × Nat × List (List Int), v = .slice x.1 x.2.1 x.2.2.1 ∧ RdM W (.slice x.1 x.2.1 x.2.2.1) x.2.2.2 := by
  obtain ⟨a, len, cap, rfl⟩ := okWide_slice Try.underlying22 hval
  obtain ⟨fuel, hf⟩ := h
  rcases Go.Deep.open_int_rows Try.underlying22 Try.underlying24 Try.underlying3 (by kernel_rfl) (by kernel_rfl) hf with ⟨hcs, _⟩ | ⟨x, l, c, A, L, C, Z, hcs, _, hl, hm, hx, hcell⟩
  · simp [Value.cells] at hcs
    obtain ⟨rfl, rfl, rfl⟩ := hcs
    exact ⟨(none, 0, 0, []), rfl, RdM.mk rfl (Nat.le_refl _) (Nat.zero_le _) (fun h => absurd h (by decide))⟩
  · simp [Value.cells] at hcs
    obtain ⟨rfl, rfl, rfl⟩ := hcs
    refine ⟨(some x, len, cap, (List.range len).map fun r => (Z r).take (L r)), rfl, RdM.mk (by simp) hl hm fun h0 => ?_⟩
    have h0 : 0 < len := h0
    obtain ⟨b, off, spot⟩ := x
    have hsp : spot = none := by simpa [Addr.add] using World.cell?_spot (hcell 0 (by omega)).1
    subst hsp
    refine ⟨b, off, fun r => .slice (A r) (L r) (C r), rfl, World.block_lt_of_cell? W _ (hcell 0 (by omega)).1, fun i hi => ?_⟩
    have hi : i < len := hi
    obtain ⟨e1, e2, e3, e4, e5, e6, e7⟩ := hcell i (by omega)
    refine ⟨by rw [WideShapes.add_plain] at e1; exact e1, ?_⟩
    have hg : ((List.range len).map fun r => (Z r).take (L r)).getD i [] = (Z i).take (L i) := by
      simp [List.getD_eq_getElem?_getD, List.getElem?_map, List.getElem?_range, hi]
    rw [hg]
    have hl2 : ((Z i).take (L i)).length = L i := by rw [List.length_take]; omega
    refine Rd.mk hl2 e2 e3 fun j hj => ?_
    cases ha : A i with
    | none => have := e6 ha; omega
    | some a' =>
      obtain ⟨_, e8⟩ := e7 a' ha
      obtain ⟨b', off', spot'⟩ := a'
      have hsp : spot' = none := by simpa [Addr.add] using World.cell?_spot (e8 0 (by omega))
      subst hsp
      refine ⟨b', off', rfl, World.block_lt_of_cell? W _ (e8 0 (by omega)), fun k hk => ?_⟩
      have := e8 k (by omega)
      rw [show ((Z i).take (L i)).getD k 0 = (Z i).getD k 0 by
        rw [List.getD_eq_getElem?_getD, List.getElem?_take, if_pos hk, List.getD_eq_getElem?_getD]]
      rw [WideShapes.add_plain] at this; exact this
end Go.Proofs.Ytidnmdfpnmahpaa
