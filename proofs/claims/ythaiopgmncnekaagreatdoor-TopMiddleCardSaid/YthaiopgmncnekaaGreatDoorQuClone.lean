/- slices.Clone of a row of summaries' parts. Condition: it has at most 2^40. -/
import Derived.Test.YthaiopgmncnekaaGreatDoorQuRow
import Derived.WalkSpells
set_option linter.unusedSimpArgs false
set_option linter.unusedVariables false
set_option maxRecDepth 20000
namespace Go.Proofs.YthaiopgmncnekaaGreatDoor.Qu
open Go.RowKit
theorem Tryz.info43 : (Tryz.prog.info? 43).map (fun i => (i.zero, i.size, i.bytes)) = some (some (.agg #[.int .i64 0, .int .i64 0, .int .i64 0]), 3, 24) := by kernel_rfl
set_option maxHeartbeats 400000 in
theorem clone_any (a : Option Addr) (n cap base : Nat) (l : List Rk) (w : World) (h : Own w base (.slice a n cap) l) (hn : l.length = n) (hb : n ≤ 1099511627776) :
    Calls Tryz.prog 25 #[.slice a n cap] w fun e w' => ∃ v', e = .returned v' ∧ Own w' w.heap.size v' l ∧ Below w.heap.size w w' := by
  obtain ⟨i0, hi, hz0, hz1, hz2⟩ := info_parts Tryz.info43
  obtain ⟨a', cap', he, hlc, hcm, hno, hso⟩ := h.open
  injection he with e1 e2 e3
  subst e1; subst e3
  have HR := Lib.hid h; clear h
  have HN := Lib.hid hn
  have ek := fun (w : World) => Lib.run_eql_slice_nil (P := Tryz.prog) w 26 43 a n cap 0 0 Tryz.underlying26
  cases a with
  | none =>
    obtain ⟨h1, h2⟩ := hno rfl
    subst h1; subst h2
    obtain rfl : n = 0 := by rw [← hn]; rfl
    clear hno hso hn e2
    go_enter Tryz.func25, Tryz.ntmps25
    go_wp2_with fail
    go_ret
    exact ⟨_, rfl, Own.nil _ _, Below.refl _ _⟩
  | some x =>
    obtain ⟨g, cur, rfl, hbg, hgs, -⟩ := hso x rfl
    clear hno hso e2 hn
    rw [HN.out] at hlc
    go_enter Tryz.func25, Tryz.ntmps25
    go_wp2_with (at_builtin; go_must (refine wpList_append_own _ rfl _ _ 26 rfl w.heap.size 43 i0 (.agg #[.int .i64 0, .int .i64 0, .int .i64 0]) 3 24 Tryz.underlying26 hi hz0 hz1 hz2 rfl (by decide) _ 0 [] rfl ?hown ⟨g, 0, none⟩ n cap (rkL l) rfl ?hl ?hnews ?h1 ?h63 ?hby ?hbs ?_))
    case hown => exact World.ownsRow_made (w := w) (base := w.heap.size) (e := 43) (size := 3) #[] 0 (Nat.le_refl _) (Nat.zero_le _) rfl
    case hl => rw [rkL_len, HN.out]
    case hnews =>
      intro j u hu
      have h4 := HR.out.cells (g := g) rfl j u hu
      rw [Addr.add_lit] at h4 ⊢
      rw [World.cell?_alloc_past _ _ _ hgs]
      exact h4
    case h1 => exact rkL_one l
    case h63 => unfold maxLen; omega
    case hby => omega
    case hbs => simp
    intro v' w1 ho hg _
    have hB : Below w.heap.size w w1 := ((Below.refl _ _).alloc (Nat.le_refl _) _).grown hg (by simp) (fun k hk => by simp [Value.ownBlock] at hk; omega)
    have HOW : Hid (Own w1 w.heap.size v' l) := by
      show World.ownsRow _ _ _ _ _ _ _
      rw [HN.out]; simpa using ho
    clear hg ho
    go_wp2_with fail
    go_ret
    exact ⟨_, rfl, HOW.out, hB⟩
end Go.Proofs.YthaiopgmncnekaaGreatDoor.Qu
