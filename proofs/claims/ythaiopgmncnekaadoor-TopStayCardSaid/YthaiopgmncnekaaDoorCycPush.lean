/- Append of one int, and where the row lies afterwards; the rest of a row behind a cut. No condition. -/
import Derived.Test.YthaiopgmncnekaaDoorCycThen
import Derived.Lib.AppendZeros
import Derived.Laws.Append
import Derived.Laws.AppendOwn
import Derived.Deep.Upon
set_option linter.unusedSimpArgs false
set_option linter.unusedVariables false
set_option maxRecDepth 20000
namespace Go.Proofs.YthaiopgmncnekaaDoor.Cyc
open Go.RowKit
theorem run_value {α : Type} {a b : α} {w w' : World} (h : Result.ok a w = Result.ok b w') : a = b := by injection h
theorem run_own_where {w : World} (base ty : Nat) (v : Value) (n : Nat) (xs : List Int) (hown : w.ownsRow base 3 1 v n (xs.map (Value.int .i64)))
    (ad : Addr) (c : Nat) (x : Int) (hx : w.cell? ad = some (.int .i64 x)) (had : ad.spot = none) (h63 : n + 1 ≤ 17592186044416) (hbase : base ≤ w.heap.size) :
    ∃ v' w', (Builtin.append_ #[30, 30] ty #[v, .slice (some ad) 1 c]).run Tryd.prog w = .ok v' w' ∧ w'.ownsRow base 3 1 v' (n + 1) ((xs ++ [x]).map (Value.int .i64)) ∧ w.grownBy w' v.ownBlock ∧
      (v'.ownBlock = v.ownBlock ∨ ∃ g, v'.ownBlock = some g ∧ w.heap.size ≤ g) := by
  obtain ⟨i, hi, hz0, hz1, hz2⟩ := info_parts Tryd.info3t
  obtain ⟨ab, ao, asp⟩ := ad
  subst had
  have hnews : ∀ j u, [Value.int .i64 x][j]? = some u → w.cell? ((⟨ab, ao, none⟩ : Addr).add j) = some u := by
    intro j u hj
    match j, hj with
    | 0, hj => simp at hj; subst hj; simpa [Addr.add] using hx
  have hone : ∀ u ∈ [Value.int .i64 x], u.oneCell' = true := fun u hu => by simp at hu; subst hu; rfl
  obtain ⟨v', w', hr, h2, h3, -⟩ := run_append_own (P := Tryd.prog) w base 30 ty 3 i (.int .i64 0) 1 8 Tryd.underlying30 hi hz0 hz1 hz2 rfl (by decide) v n _ hown ⟨ab, ao, none⟩ 1 c [.int .i64 x] rfl hnews hone (by unfold maxLen; omega) (by omega) hbase
  refine ⟨v', w', hr, by simpa using h2, h3, ?_⟩
  rcases hown.2 with ⟨rfl, rfl⟩ | ⟨g, cap, cur, rfl, hbg, hg, hnc, hcm, hcs, htake⟩
  · have e := run_append_nil (P := Tryd.prog) w 30 ty 3 i (.int .i64 0) Tryd.underlying30 hi hz0 ⟨ab, ao, none⟩ 1 c [.int .i64 x] (by rw [hz1]; rfl) hnews (by omega) (by omega) (by rw [hz2]; omega)
    rw [e] at hr
    have := run_value hr
    subst this
    exact .inr ⟨_, rfl, Nat.le_refl _⟩
  · by_cases hroom : n + 1 ≤ cap
    · have e := run_append_room (P := Tryd.prog) w 30 ty 3 i Tryd.underlying30 hi g n cap cur hg ⟨ab, ao, none⟩ 1 c [.int .i64 x] (by rw [hz1]; rfl) hnews hone hroom (by rw [hcs, hz1]; simp; omega)
      rw [e] at hr
      have := run_value hr
      subst this
      exact .inl rfl
    · have holds : ∀ j u, (xs.map (Value.int .i64))[j]? = some u → w.cell? ((⟨g, 0, none⟩ : Addr).add j) = some u := hown.cells (g := g) rfl
      have e := run_append_grow (P := Tryd.prog) w 30 ty 3 i (.int .i64 0) Tryd.underlying30 hi hz0 ⟨g, 0, none⟩ n cap _ (by rw [hz1]; exact hown.1) holds ⟨ab, ao, none⟩ 1 c [.int .i64 x] (by rw [hz1]; rfl) hnews (by omega) (by omega) (growslice_fits (by omega) (by rw [hz2]; omega))
      rw [e] at hr
      have := run_value hr
      subst this
      exact .inr ⟨_, rfl, Nat.le_refl _⟩
theorem push2 {w : World} {ops : Array Oper} {rest : List Oper} {o : Oper} {a : Act} {Q : Exit → Act → World → Prop} (hgd : o.guard = none) (s x : Operand)
    (ho : o.op = .call { callee := .builtin .append, args := #[s, x], argTypes := #[30, 30] })
    (base : Nat) (v : Value) (n : Nat) (xs : List Int) (hs : a.eval s = v) (hown : w.ownsRow base 3 1 v n (xs.map (Value.int .i64)))
    (u : Int) (b : Nat) (hx : a.eval x = .slice (some ⟨b, 0, none⟩) 1 1) (hbl : b = w.heap.size) (h63 : n + 1 ≤ 17592186044416) (hbase : base ≤ w.heap.size)
    (h : ∀ v' w', w'.ownsRow base 3 1 v' (n + 1) ((xs ++ [u]).map (Value.int .i64)) → (w.alloc (.cells #[.int .i64 u] 3)).grownBy w' v.ownBlock → (v'.ownBlock = v.ownBlock ∨ ∃ g, v'.ownBlock = some g ∧ w.heap.size ≤ g) → wpList Tryd.prog ops Q rest (a.put o.dst v') w') :
    wpList Tryd.prog ops Q (o :: rest) a (w.alloc (.cells #[.int .i64 u] 3)) := by
  subst hbl
  obtain ⟨v', w', hr, h2, h3, h4⟩ := run_own_where (w := w.alloc (.cells #[.int .i64 u] 3)) base o.type v n xs (hown.alloc _) ⟨w.heap.size, 0, none⟩ 1 u (by rw [cell_of_row _ _ _ _ _ _ (heap_alloc_new w _)]; rfl) rfl h63 (by simp; omega)
  exact Lib.wpList_append_run _ hgd s x 30 30 ho _ _ hs hx v' w' hr (h v' w' h2 h3 (h4.imp id fun ⟨g, h5, h6⟩ => ⟨g, h5, by simp at h6; omega⟩))
/-- A row of ints at the start of block h. -/
def At0 (w : World) (h cap : Nat) (ls : List Int) : Prop := ls.length ≤ cap ∧ cap ≤ maxLen ∧ h < w.heap.size ∧ ∀ i, i < ls.length → w.cell? ⟨h, i, none⟩ = some (.int .i64 (ls.getD i 0))
theorem At0.below {w w' : World} {B h cap : Nat} {ls : List Int} (ha : At0 w h cap ls) (hb : Below B w w') (hB : h < B) : At0 w' h cap ls :=
  ⟨ha.1, ha.2.1, Nat.lt_of_lt_of_le ha.2.2.1 hb.size, fun i hi => (World.cell?_of_block (hb.block h hB)).trans (ha.2.2.2 i hi)⟩
/-- 'append(l[:x:x], l[x+1:]...)', some behind. -/
theorem cut_more {w : World} {h cap : Nat} {ls : List Int} (ha : At0 w h cap ls) {x : Nat} (hx : x + 1 < ls.length) (hl : ls.length ≤ 1000) (ty c2 : Nat) :
    ∃ cap' w', (Builtin.append_ #[30, 30] ty #[.slice (some ⟨h, 0, none⟩) x x, .slice (some ⟨h, x + 1, none⟩) (ls.length - (x + 1)) c2]).run Tryd.prog w = .ok (.slice (some ⟨w.heap.size, 0, none⟩) (ls.length - 1) cap') w' ∧ At0 w' w.heap.size cap' (ls.eraseIdx x) ∧ Below w.heap.size w w' := by
  obtain ⟨i, hi, hz0, hz1, hz2⟩ := info_parts Tryd.info3t
  obtain ⟨a1, a2, a3, a4⟩ := ha
  have e := run_append_grow (P := Tryd.prog) w 30 ty 3 i (.int .i64 0) Tryd.underlying30 hi hz0 ⟨h, 0, none⟩ x x ((ls.take x).map (Value.int .i64)) (by rw [hz1]; simp; omega)
    (by
      intro j v hj
      rw [List.getElem?_map] at hj
      have hjx : j < x := by
        rcases Nat.lt_or_ge j x with h' | h'
        · exact h'
        · rw [List.getElem?_eq_none (by rw [List.length_take]; omega)] at hj; cases hj
      rw [List.getElem?_take, if_pos hjx, List.getElem?_eq_getElem (by omega)] at hj
      simp at hj
      subst hj
      rw [WideShapes.add_plain, Nat.zero_add]
      have := a4 j (by omega)
      rwa [List.getD_eq_getElem?_getD, List.getElem?_eq_getElem (by omega)] at this)
    ⟨h, x + 1, none⟩ (ls.length - (x + 1)) c2 ((ls.drop (x + 1)).map (Value.int .i64)) (by rw [hz1]; simp)
    (by
      intro j v hj
      rw [List.getElem?_map] at hj
      have hjx : x + 1 + j < ls.length := by
        rcases Nat.lt_or_ge (x + 1 + j) ls.length with h' | h'
        · exact h'
        · rw [List.getElem?_eq_none (by rw [List.length_drop]; omega)] at hj; cases hj
      rw [List.getElem?_drop, List.getElem?_eq_getElem hjx] at hj
      simp at hj
      subst hj
      rw [WideShapes.add_plain]
      have := a4 (x + 1 + j) hjx
      rwa [List.getD_eq_getElem?_getD, List.getElem?_eq_getElem hjx] at this)
    (by omega) (by omega) (growslice_fits (by omega) (by rw [hz2]; omega))
  rw [show x + (ls.length - (x + 1)) = ls.length - 1 by omega] at e
  have hge := grownCap_ge w (ls.length - 1) x 3
  have hcm : grownCap w (ls.length - 1) x 3 ≤ maxLen := grownCap_le_maxLen w (ls.length - 1) x 3 (by unfold maxLen; omega)
  have hlen : (ls.eraseIdx x).length = ls.length - 1 := by rw [List.length_eraseIdx]; rw [if_pos (by omega)]
  refine ⟨_, _, e, ⟨by rw [hlen]; exact hge, hcm, by simp, fun j hj => ?_⟩, ⟨rfl, rfl, rfl, by simp, fun k hk => heap_alloc_old w.drew _ hk⟩⟩
  rw [hlen] at hj
  rw [show (w.heap.size : Nat) = w.drew.heap.size from rfl, cell_of_row _ _ _ _ _ _ (heap_alloc_new w.drew _), List.eraseIdx_eq_take_drop_succ]
  have h1 : ((ls.take x ++ ls.drop (x + 1)).map (Value.int .i64))[j]? = some (.int .i64 ((ls.take x ++ ls.drop (x + 1)).getD j 0)) := by
    rw [List.getElem?_map, List.getD_eq_getElem?_getD, List.getElem?_eq_getElem (by simp; omega)]; rfl
  rw [← h1, ← Array.getElem?_toList]
  simp only [Array.toList_append, ← List.map_append]
  rw [List.getElem?_append_left (by simp; omega)]
theorem cut_none {w : World} {h : Nat} (x ty c2 : Nat) (a : Addr) :
    (Builtin.append_ #[30, 30] ty #[.slice (some ⟨h, 0, none⟩) x x, .slice (some a) 0 c2]).run Tryd.prog w = .ok (.slice (some ⟨h, 0, none⟩) x x) w := by
  obtain ⟨i, hi, hz0, hz1, hz2⟩ := info_parts Tryd.info3t
  exact run_append_nothing w 30 30 ty 3 i Tryd.underlying30 hi _ x x (Nat.le_refl _) _ (Src.ofSlice w Tryd.underlying30 a 0 c2 [] (by simp) (fun j u h => by simp at h) (fun u h => by simp at h))
end Go.Proofs.YthaiopgmncnekaaDoor.Cyc
