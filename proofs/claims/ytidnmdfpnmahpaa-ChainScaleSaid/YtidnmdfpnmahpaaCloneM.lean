/- slices.Clone at [][]int: a slice of its own, of the same rows. Condition: at most 1000 rows, and not none. -/
import Derived.Test.YtidnmdfpnmahpaaGrow
import Derived.Test.YtidnmdfpnmahpaaWrong
import Derived.WalkSpells
set_option linter.unusedSimpArgs false
set_option linter.unusedVariables false
namespace Go.Proofs.Ytidnmdfpnmahpaa
open Go.RowKit
set_option maxHeartbeats 400000 in
theorem cloneM_any (b off n cap : Nat) (U : Nat → Value) (w : World) (h0 : 0 < n) (h1n : n ≤ 1000) (hb : b < w.heap.size) (hU : ∀ i, i < n → w.cell? ⟨b, off + i, none⟩ = some (U i)) (h1 : ∀ i, i < n → (U i).oneCell' = true) (hlc : n ≤ cap) (hcm : cap ≤ 9223372036854775807) :
    Calls Try.prog 15 #[.slice (some ⟨b, off, none⟩) n cap] w fun e w' =>
    ∃ g c, e = .returned (.slice (some ⟨g, 0, none⟩) n c) ∧ w'.ownsRow w.heap.size 24 1 (.slice (some ⟨g, 0, none⟩) n c) n ((List.range n).map U) ∧ Below w.heap.size w w' ∧ n ≤ c ∧ c ≤ 9223372036854775807 := by
  obtain ⟨i0, hi, hz0, hz1, hz2⟩ := info_parts Try.infoS
  have HU := Lib.hid hU; clear hU
  have HX := Lib.hid h1; clear h1
  have ek := fun (w : World) => Lib.run_eql_slice_nil (P := Try.prog) w 22 24 (some ⟨b, off, none⟩) n cap 0 0 Try.underlying22
  go_enter Try.func15, Try.ntmps15
  go_wp2_with (at_builtin; go_must (refine wpList_append_own _ rfl _ _ 22 rfl w.heap.size 24 i0 (.slice none 0 0) 1 24 Try.underlying22 hi hz0 hz1 hz2 rfl (by decide) _ 0 [] rfl ?hown ⟨b, off, none⟩ n cap ((List.range n).map U) rfl ?hl ?hnews ?h1 ?h63 ?hby ?hbs ?_))
  case hown => exact World.ownsRow_made (w := w) (base := w.heap.size) (e := 24) (size := 1) #[] 0 (Nat.le_refl _) (Nat.zero_le _) rfl
  case hl => simp
  case hnews =>
    intro j u hu
    have hj : j < n := by
      rcases Nat.lt_or_ge j n with h1 | h1
      · exact h1
      · rw [List.getElem?_eq_none (by simpa using h1)] at hu; cases hu
    rw [List.getElem?_map, List.getElem?_range hj] at hu
    simp at hu
    subst hu
    rw [show (Addr.add ⟨b, off, none⟩ j) = ⟨b, off + j, none⟩ by simp [Addr.add], World.cell?_alloc_past _ _ _ hb]
    exact HU.out j hj
  case h1 => intro u hu; simp at hu; obtain ⟨x, hx, rfl⟩ := hu; exact HX.out x hx
  case h63 => unfold maxLen; omega
  case hby => omega
  case hbs => simp
  intro v' w1 ho hg _
  have hB : Below w.heap.size w w1 := ((Below.refl _ _).alloc (Nat.le_refl _) _).grown hg (by simp) (fun k hk => by simp [Value.ownBlock] at hk; omega)
  clear hg
  obtain ⟨g, c, rfl, hc1, hc2, -⟩ := own_open ho h0
  have hc2' : c ≤ 9223372036854775807 := hc2
  clear hc2
  go_wp2_with fail
  go_ret
  exact ⟨_, _, rfl, ho, hB, hc1, hc2'⟩
end Go.Proofs.Ytidnmdfpnmahpaa
