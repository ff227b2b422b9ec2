/- tape.Fair: what it answers. No condition. -/
import Derived.Test.YtjcdkajcbefgcaaDef
set_option linter.unusedSimpArgs false
set_option linter.unusedVariables false
namespace Go.Proofs.Ytjcdkajcbefgcaa
open Go.RowKit
def fz : Option (Bool × Nat) → Value
  | none => .tuple #[.bool false, .int .i64 0, .int .i64 7]
  | some q => .tuple #[.bool q.1, .int .i64 q.2, .int .i64 0]
theorem drop_two {z : List Bool} {u : Nat} (h : u + 1 < z.length) : z.drop u = z.getD u false :: z.getD (u + 1) false :: z.drop (u + 2) := by
  rw [List.drop_eq_getElem_cons (by omega), List.drop_eq_getElem_cons h]
  simp [List.getD_eq_getElem?_getD, List.getElem?_eq_getElem, h, show u < z.length by omega]
theorem fair_short : ∀ {z : List Bool}, z.length < 2 → fairF z = none
  | [], _ => rfl
  | [_], _ => rfl
  | _ :: _ :: _, h => by simp at h; omega
set_option maxHeartbeats 800000 in
theorem fair_any (v : Value) (z : List Bool) (w : World) (h : RdB w v z) :
    Calls Try.prog 10 #[v] w fun e w' => e = .returned (fz (fairF z)) ∧ Below w.heap.size w w' := by
  obtain ⟨a, cap, rfl, hlc, hcm, hop⟩ := h.open
  clear h
  have HOP := Lib.hid hop; clear hop
  go_enter Try.func10, Try.ntmps10
  go_wp2_with fail
  go_loopw [5] (fun uv wr => ∃ j : Nat, uv = .int .i64 (2 * j : Nat) ∧ 2 * j ≤ z.length ∧ Hid (fairF z = (fairF (z.drop (2 * j))).map fun q => (q.1, q.2 + 2 * j)) ∧ Below w.heap.size w wr) (fun uv _ => z.length - (intOf uv).toNat)
  case atStart => exact ⟨0, rfl, Nat.zero_le _, by show _ = _; simp, Below.refl _ _⟩
  case round =>
    obtain ⟨j, rfl, hu, hb, hbel⟩ := hrel
    have hpar : 2 * j % 2 = 0 := by omega
    generalize hU : 2 * j = u at *
    by_cases hs : u + 1 < z.length
    · obtain ⟨b, off, rfl, hlt, hc⟩ := HOP.out u (by omega)
      have c1 := (World.cell?_of_block (hbel.block b hlt)).trans (hc u (by omega))
      have c2 := (World.cell?_of_block (hbel.block b hlt)).trans (hc (u + 1) (by omega))
      clear hc
      have hd := drop_two hs
      generalize hx : z.getD u false = x at *
      generalize hy : z.getD (u + 1) false = y at *
      by_cases hxy : x = y
      · subst hxy
        have HB2 : Hid (fairF z = (fairF (z.drop (u + 2))).map fun q => (q.1, q.2 + (u + 2))) := by
          show _ = _
          rw [hb.out, hd, fairF, if_pos rfl, Option.map_map]
          congr 1; funext q; simp; omega
        have e1 : (x != x) = false := by simp
        clear hd hb hx hy
        go_wp2_with fail
        go_quiet (fail)
        go_wp2_with fail
        go_roundw
        case rel => exact ⟨j + 1, by rw [show 2 * (j + 1) = u + 2 by omega]; go_num, by omega, by rw [show 2 * (j + 1) = u + 2 by omega]; exact HB2.out, hbel.drewN _⟩
        case measure => simp [intOf]; omega
      · have HB2 : Hid (fairF z = some (x, u + 2)) := by
          show _ = _
          rw [hb.out, hd, fairF, if_neg hxy]; simp; omega
        clear hd hb hx hy
        cases x <;> cases y <;> first | exact absurd rfl hxy | skip
        all_goals
          clear hxy
          go_wp2_with fail
          go_quiet (fail)
          go_wp2_with fail
          go_ret3
          exact ⟨by rw [HB2.out]; rfl, hbel.drewN _⟩
    · have HB2 : Hid (fairF z = none) := by
        show _ = _
        rw [hb.out, fair_short (by rw [List.length_drop]; omega)]; rfl
      have e1 : decide ((u : Int) + 1 < (z.length : Int)) = false := by simp; omega
      go_wp2_with fail
      go_ret3
      exact ⟨by rw [HB2.out]; rfl, hbel⟩
end Go.Proofs.Ytjcdkajcbefgcaa
