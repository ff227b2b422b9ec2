/- alive: true. Condition: the listed variables as they are laid. -/
import Derived.Test.YthaiopgmncnekaaGreatDoorTell
set_option linter.unusedSimpArgs false
set_option linter.unusedVariables false
set_option maxRecDepth 20000
namespace Go.Proofs.YthaiopgmncnekaaGreatDoor
open Go.RowKit
def bs (l : List UInt8) : ByteArray := ⟨l.toArray⟩
def aliveT : List UInt8 := [114, 111, 111, 109, 32, 49, 10, 97, 100, 100, 32, 52, 32, 48, 10, 97, 100, 100, 32, 54, 32, 48, 10, 97, 100, 100, 32, 56, 32, 50, 10]
theorem alive_parse : parse aliveT = .ok (1, [(4, 0), (6, 0), (8, 2)]) := by
  rw [parse_ok]
  exact ⟨by decide, by decide +kernel⟩
theorem alive_told : told 1 [(4, 0), (6, 0), (8, 2)] = [[111, 107], [111, 107], [111, 107], [107, 101, 112, 116, 32, 51, 32, 54]] := by decide +kernel
theorem own_strs {w : World} {base g n cap : Nat} {L : List (List UInt8)} (h : w.ownsRow base 9 1 (.slice (some ⟨g, 0, none⟩) n cap) n (L.map str)) : ∀ j, j < (L.map bs).length → w.cell? ⟨g, 0 + j, none⟩ = some (.string ((L.map bs).getD j ByteArray.empty)) := by
  intro j hj
  have hl : (L.map str).length = n := by have := h.1; omega
  have hj : j < L.length := by simpa using hj
  rw [Nat.zero_add, h.cellAt j (by simp at hl; omega), List.getD_eq_getElem?_getD, List.getElem?_map, List.getElem?_map, List.getElem?_eq_getElem hj]
  rfl
set_option maxHeartbeats 800000 in
set_option maxRecDepth 20000 in
theorem alive_any (w : World) (hT : TW w) : Calls Tryz.prog 4 #[] w fun e w' => e = .returned (.bool true) ∧ Below w.heap.size w w' := by
  have HA : Hid (Calls Tryz.prog 10 #[.string ⟨#[114, 111, 111, 109, 32, 49, 10, 97, 100, 100, 32, 52, 32, 48, 10, 97, 100, 100, 32, 54, 32, 48, 10, 97, 100, 100, 32, 56, 32, 50, 10]⟩] w fun e w' => Below w.heap.size w w' ∧ ∃ v, e = .returned (.tuple #[v, .int .i64 0]) ∧ w'.ownsRow w.heap.size 9 1 v 4 ((told 1 [(4, 0), (6, 0), (8, 2)]).map str)) := by
    refine (tell_any aliveT w hT (by decide)).mono ?_
    intro e w' h
    rw [alive_parse] at h
    exact h
  rw [alive_told] at HA
  go_enter Tryz.func4, Tryz.ntmps4
  go_wp2_with fail
  refine HA.out.mono ?_
  rintro e w1 ⟨hb1, v, rfl, hv⟩
  obtain ⟨g, cap, rfl⟩ := own_slice hv (by decide)
  have HV := Lib.hid (own_strs hv)
  have HB := Lib.hid hb1
  have hg : g < w1.heap.size := (hv.lt g rfl).2
  clear hv hb1
  have HB2 : Hid (Below w.heap.size w (w1.alloc (.cells #[.string ⟨#[111, 107]⟩, .string ⟨#[111, 107]⟩, .string ⟨#[111, 107]⟩, .string ⟨#[107, 101, 112, 116, 32, 51, 32, 54]⟩] 9))) := HB.out.alloc HB.out.size _
  have HE : Hid (Calls Tryz.prog 11 #[.slice (some ⟨g, 0, none⟩) 4 cap, .slice (some ⟨w1.heap.size, 0, none⟩) 4 4] (w1.alloc (.cells #[.string ⟨#[111, 107]⟩, .string ⟨#[111, 107]⟩, .string ⟨#[111, 107]⟩, .string ⟨#[107, 101, 112, 116, 32, 51, 32, 54]⟩] 9)) fun e w' => e = .returned (.bool true) ∧ ∃ q, w' = (w1.alloc (.cells #[.string ⟨#[111, 107]⟩, .string ⟨#[111, 107]⟩, .string ⟨#[111, 107]⟩, .string ⟨#[107, 101, 112, 116, 32, 51, 32, 54]⟩] 9)).drewN q) := by
    refine (Tryz.slices_Equal_string g 0 4 cap w1.heap.size 0 4 4 ([[111, 107], [111, 107], [111, 107], [107, 101, 112, 116, 32, 51, 32, 54]].map bs) ([[111, 107], [111, 107], [111, 107], [107, 101, 112, 116, 32, 51, 32, 54]].map bs) _ (by decide) (by decide) (by decide) (by decide) ?_ ?_).mono ?_
    · intro j hj
      rw [World.cell?_of_block (Below.heap_alloc _ _ _ hg)]
      exact HV.out j hj
    · intro j hj
      rw [cell_of_row _ _ _ _ _ _ (heap_alloc_new w1 _)]
      match j, hj with
      | 0, _ => rfl
      | 1, _ => rfl
      | 2, _ => rfl
      | 3, _ => rfl
      | j + 4, h => exact absurd h (by simp)
    · rintro e w' ⟨rfl, hw⟩
      exact ⟨by rw [decide_eq_true rfl], hw⟩
  go_wp2_with fail
  refine HE.out.mono ?_
  rintro e w2 ⟨rfl, q, rfl⟩
  go_wp2_with fail
  go_ret
  exact ⟨rfl, HB2.out.drewN q⟩
end Go.Proofs.YthaiopgmncnekaaGreatDoor
