/- slices.Clone at []int: a list of its own. Condition: the list takes at most 2^47 bytes. -/
import Derived.Test.YthaiopgmncnekaaGreatDoorGen
import Derived.WalkSpells
set_option linter.unusedSimpArgs false
set_option linter.unusedVariables false
set_option maxRecDepth 20000
namespace Go.Proofs.YthaiopgmncnekaaGreatDoor
open Go.RowKit
theorem Tryz.info3 : (Tryz.prog.info? 3).map (fun i => (i.zero, i.size, i.bytes)) = some (some (.int .i64 0), 1, 8) := by kernel_rfl
set_option maxHeartbeats 400000 in
theorem clone_any (v : Value) (zs : List Int) (w : World) (h : Rd w v zs) (hb : zs.length * 8 ≤ 140737488355328) : Calls Tryz.prog 32 #[v] w fun e w' =>
    ∃ v', e = .returned v' ∧ w'.ownsRow w.heap.size 3 1 v' zs.length (zs.map (Value.int .i64)) ∧ Below w.heap.size w w' := by
  obtain ⟨i0, hi, hz0, hz1, hz2⟩ := info_parts Tryz.info3
  obtain ⟨a, cap, rfl, hlc, hcm, hop⟩ := h.open
  have HR := Lib.hid h; clear h
  have HO := Lib.hid hop; clear hop
  have ek := fun (w : World) => Lib.run_eql_slice_nil (P := Tryz.prog) w 22 3 a zs.length cap 0 0 Tryz.underlying22
  cases a with
  | none =>
    have hz : zs = [] := by
      rcases Nat.eq_zero_or_pos zs.length with h0 | h0
      · exact List.length_eq_zero_iff.1 h0
      · obtain ⟨b, off, h1, _⟩ := HO.out 0 h0; cases h1
    subst hz
    have ek2 := fun (w : World) => Lib.run_eql_slice_nil (P := Tryz.prog) w 22 3 none 0 cap 0 0 Tryz.underlying22
    clear ek
    go_enter Tryz.func32, Tryz.ntmps32
    go_wp2_with fail
    go_ret
    exact ⟨_, rfl, World.ownsRow_nil _ _ _ _, Below.refl _ _⟩
  | some x =>
    go_enter Tryz.func32, Tryz.ntmps32
    go_wp2_with (at_builtin; go_must (refine wpList_append_own _ rfl _ _ 22 rfl w.heap.size 3 i0 (.int .i64 0) 1 8 Tryz.underlying22 hi hz0 hz1 hz2 rfl (by decide) _ 0 [] rfl ?hown x zs.length cap (zs.map (Value.int .i64)) rfl ?hl ?hnews ?h1 ?h63 ?hby ?hbs ?_))
    case hown => exact World.ownsRow_made (w := w) (base := w.heap.size) (e := 3) (size := 1) #[] 0 (Nat.le_refl _) (Nat.zero_le _) rfl
    case hl => simp
    case hnews =>
      intro j u hu
      have hj : j < zs.length := by
        rcases Nat.lt_or_ge j zs.length with h1 | h1
        · exact h1
        · rw [List.getElem?_eq_none (by simpa using h1)] at hu; cases hu
      obtain ⟨b, off, h1, h2, h3⟩ := HO.out j hj
      cases h1
      have h4 := h3 j hj
      rw [List.getElem?_map, List.getElem?_eq_getElem hj] at hu
      simp at hu
      subst hu
      rw [show (Addr.add ⟨b, off, none⟩ j) = ⟨b, off + j, none⟩ by simp [Addr.add], World.cell?_alloc_past _ _ _ h2]
      simpa [hj] using h4
    case h1 => intro u hu; simp at hu; obtain ⟨x, _, rfl⟩ := hu; rfl
    case h63 => unfold maxLen; omega
    case hby => omega
    case hbs => simp
    intro v' w1 ho hg _
    have hB : Below w.heap.size w w1 := ((Below.refl _ _).alloc (Nat.le_refl _) _).grown hg (by simp) (fun k hk => by simp [Value.ownBlock] at hk; omega)
    clear hg
    go_wp2_with fail
    go_ret
    exact ⟨_, rfl, by simpa using ho, hB⟩
end Go.Proofs.YthaiopgmncnekaaGreatDoor
