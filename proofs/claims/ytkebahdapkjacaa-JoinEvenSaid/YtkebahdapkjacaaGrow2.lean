/- A row appended to a slice of slices of the call's own, and where it lies afterwards. No condition. -/
import Derived.Test.YtkebahdapkjacaaGrow
import Derived.Lib.AppendZeros
import Derived.Deep.Upon
set_option linter.unusedSimpArgs false
set_option linter.unusedVariables false
namespace Go.Proofs.Ytkebahdapkjacaa
open Go.RowKit
theorem run_value {α : Type} {a b : α} {w w' : World} (h : Result.ok a w = Result.ok b w') : a = b := by injection h
theorem run_where {P : Program} {w : World} (base ty : Nat) (t e : TypeId) (i : TypeInfo) (z : Value) (bytes : Nat) (ht : P.underlying t = some (.slice e)) (hi : P.info? e = some i) (hz : i.zero = some z)
    (hsize : i.size = 1) (hby : i.bytes = bytes) (hb0 : 0 < bytes) (hb8 : bytes ≤ 32) (hzs : z.cells.size = 1)
    (v : Value) (n : Nat) (xs : List Value) (hown : w.ownsRow base e 1 v n xs)
    (ad : Addr) (c : Nat) (u : Value) (hx : w.cell? ad = some u) (had : ad.spot = none) (h1 : u.oneCell' = true) (h63 : n + 1 ≤ 1000000000000) (hbase : base ≤ w.heap.size) :
    ∃ v' w', (Builtin.append_ #[t, t] ty #[v, .slice (some ad) 1 c]).run P w = .ok v' w' ∧ w'.ownsRow base e 1 v' (n + 1) (xs ++ [u]) ∧ w.grownBy w' v.ownBlock ∧
      (v'.ownBlock = v.ownBlock ∨ ∃ g, v'.ownBlock = some g ∧ w.heap.size ≤ g) := by
  obtain ⟨ab, ao, asp⟩ := ad
  subst had
  have hnews : ∀ j x, [u][j]? = some x → w.cell? ((⟨ab, ao, none⟩ : Addr).add j) = some x := by
    intro j x hj
    match j, hj with
    | 0, hj => simp at hj; subst hj; simpa [Addr.add] using hx
  have hone : ∀ x ∈ [u], x.oneCell' = true := fun x hu => by simp at hu; subst hu; exact h1
  have hb : i.bytes * (n + 1) ≤ 32 * (n + 1) := Nat.mul_le_mul (by omega) (Nat.le_refl _)
  have hb2 : (n + 1) * i.bytes ≤ 32 * (n + 1) := by rw [Nat.mul_comm]; exact hb
  have hb3 : (n + 1) * bytes ≤ 32 * (n + 1) := by rw [← hby]; exact hb2
  obtain ⟨v', w', hr, h2, h3, -⟩ := run_append_own (P := P) w base t ty e i z 1 bytes ht hi hz hsize hby hzs (by omega) v n _ hown ⟨ab, ao, none⟩ 1 c [u] rfl hnews hone (by unfold maxLen; omega) (by omega) hbase
  refine ⟨v', w', hr, h2, h3, ?_⟩
  rcases hown.2 with ⟨rfl, rfl⟩ | ⟨g, cap, cur, rfl, hbg, hg, hnc, hcm, hcs, htake⟩
  · have e := run_append_nil (P := P) w t ty e i z ht hi hz ⟨ab, ao, none⟩ 1 c [u] (by rw [hsize]; rfl) hnews (by omega) (by omega) (by omega)
    rw [e] at hr
    have := run_value hr
    subst this
    exact .inr ⟨_, rfl, Nat.le_refl _⟩
  · by_cases hroom : n + 1 ≤ cap
    · have e := run_append_room (P := P) w t ty e i ht hi g n cap cur hg ⟨ab, ao, none⟩ 1 c [u] (by rw [hsize]; rfl) hnews hone hroom (by rw [hcs, hsize]; simp; omega)
      rw [e] at hr
      have := run_value hr
      subst this
      exact .inl rfl
    · have holds : ∀ j x, xs[j]? = some x → w.cell? ((⟨g, 0, none⟩ : Addr).add j) = some x := hown.cells (g := g) rfl
      have e := run_append_grow (P := P) w t ty e i z ht hi hz ⟨g, 0, none⟩ n cap _ (by rw [hsize]; exact hown.1) holds ⟨ab, ao, none⟩ 1 c [u] (by rw [hsize]; rfl) hnews (by omega) (by omega) (growslice_fits (by omega) (by omega))
      rw [e] at hr
      have := run_value hr
      subst this
      exact .inr ⟨_, rfl, Nat.le_refl _⟩
theorem push_row2 {w : World} {ops : Array Oper} {rest : List Oper} {o : Oper} {a : Act} {Q : Exit → Act → World → Prop} (hgd : o.guard = none) (s x : Operand)
    (ho : o.op = .call { callee := .builtin .append, args := #[s, x], argTypes := #[24, 24] })
    (base : Nat) (v : Value) (zss : List (List Int)) (hs : a.eval s = v) (hown : OM w base v zss)
    (V : Value) (r : List Int) (hV : RowAt w base V r) (b : Nat) (hx : a.eval x = .slice (some ⟨b, 0, none⟩) 1 1) (hbl : b = w.heap.size)
    (h63 : zss.length + 1 ≤ 1000000000000) (hbase : base ≤ w.heap.size)
    (h : ∀ v' w', OM w' base v' (zss ++ [r]) → Below base w w' → (∀ g, g < w.heap.size → some g ≠ v.ownBlock → w'.heap[g]? = w.heap[g]?) → (v'.ownBlock = v.ownBlock ∨ ∃ g, v'.ownBlock = some g ∧ w.heap.size ≤ g) → wpList Try.prog ops Q rest (a.put o.dst v') w') :
    wpList Try.prog ops Q (o :: rest) a (w.alloc (.cells #[V] 26)) := by
  subst hbl
  obtain ⟨i, hi, hz0, hz1, hz2⟩ := info_parts Try.infoS
  obtain ⟨U, h1, h2, h3⟩ := hown
  have hone : V.oneCell' = true := by obtain ⟨a, c, rfl, _⟩ := hV; rfl
  obtain ⟨v', w', hr, ho', hg, hwh⟩ := run_where (w := w.alloc (.cells #[V] 26)) base o.type 24 26 i (.slice none 0 0) 24 Try.underlying24 hi hz0 hz1 hz2 (by decide) (by decide) rfl v zss.length _ (h1.alloc _) ⟨w.heap.size, 0, none⟩ 1 V (by rw [cell_of_row _ _ _ _ _ _ (heap_alloc_new w _)]; rfl) rfl hone h63 (by simp; omega)
  refine Lib.wpList_append_run _ hgd s x 24 24 ho _ _ hs hx v' w' hr ?_
  have hB : Below base w w' := grown_below hg h1 (Below.refl _ _) (Nat.le_refl _) hbase
  have hsz := grown_size hg
  have hold : ∀ g, g < w.heap.size → some g ≠ v.ownBlock → w'.heap[g]? = w.heap[g]? := fun g hg1 hg2 => by
    rw [hg.block g (by simp; omega) hg2]
    exact Below.heap_alloc _ _ _ hg1
  have hkeep : ∀ g, g < w.heap.size → base ≤ g → (∃ cs fr, w.heap[g]? = some (.cells cs 3 fr)) → w'.heap[g]? = w.heap[g]? := by
    intro g hg1 _ ⟨cs, fr, hcs⟩
    refine hold g hg1 (fun hgv => ?_)
    rcases h1.2 with ⟨he, _⟩ | ⟨g', cap', cur, he, _, hh, _⟩
    · rw [he] at hgv; simp [Value.ownBlock] at hgv
    · rw [he] at hgv
      simp only [Value.ownBlock, Option.some.injEq] at hgv
      subst hgv
      rw [hcs] at hh
      cases hh
  refine h v' w' ⟨fun j => if j < zss.length then U j else V, ?_, ?_, ?_⟩ hB hold (hwh.imp id fun ⟨g, h5, h6⟩ => ⟨g, h5, by simp at h6; omega⟩)
  · rw [List.length_append, List.length_singleton, List.range_succ, List.map_append]
    have e1 : (List.range zss.length).map (fun j => if j < zss.length then U j else V) = (List.range zss.length).map U :=
      List.map_congr_left fun j hj => by rw [if_pos (List.mem_range.1 hj)]
    rw [e1]
    simpa using ho'
  · intro h0; simp at h0
  · intro j hj
    rw [List.length_append, List.length_singleton] at hj
    show RowAt w' base (if j < zss.length then U j else V) _
    by_cases e : j < zss.length
    · rw [if_pos e, show (zss ++ [r]).getD j [] = zss.getD j [] by rw [List.getD_eq_getElem?_getD, List.getElem?_append_left e, List.getD_eq_getElem?_getD]]
      exact (h3 j e).kept (by omega) hkeep
    · rw [if_neg e, show (zss ++ [r]).getD j [] = r by
        rw [List.getD_eq_getElem?_getD, List.getElem?_append_right (by omega), show j - zss.length = 0 by omega]; rfl]
      exact hV.kept (by omega) hkeep
/-- A slice that holds one row. -/
theorem OM.one {w : World} {base g : Nat} {V : Value} {r : List Int} (h : w.heap[g]? = some (.cells #[V] 26)) (hb : base ≤ g) (hr : RowAt w base V r) : OM w base (.slice (some ⟨g, 0, none⟩) 1 1) [r] :=
  ⟨fun _ => V, ⟨by simp, .inr ⟨g, 1, #[V], rfl, hb, h, Nat.le_refl _, by unfold maxLen; omega, by simp, by simp⟩⟩, fun h => by simp at h, fun j hj => by
    have : j = 0 := by simp at hj; exact hj
    subst this; exact hr⟩
end Go.Proofs.Ytkebahdapkjacaa
