/- A slice of slices of the call's own, row by row. No condition. -/
import Derived.Test.YtidnmdfpnmahpaaMat
set_option linter.unusedSimpArgs false
set_option linter.unusedVariables false
set_option maxRecDepth 20000
namespace Go.Proofs.Ytidnmdfpnmahpaa
open Go.RowKit
theorem Try.infoS : (Try.prog.info? 24).map (fun i => (i.zero, i.size, i.bytes)) = some (some (.slice none 0 0), 1, 24) := by kernel_rfl
/-- V is a row of ints r in a block, of ints, not below base. -/
def RowAt (w : World) (base : Nat) (V : Value) (r : List Int) : Prop :=
  ∃ a c, V = .slice a r.length c ∧ r.length ≤ c ∧ c ≤ maxLen ∧ (a = none → c = 0) ∧ (0 < r.length → ∃ h off, a = some ⟨h, off, none⟩ ∧ base ≤ h ∧ h < w.heap.size ∧ (∃ cs fr, w.heap[h]? = some (.cells cs 3 fr)) ∧ ∀ i, i < r.length → w.cell? ⟨h, off + i, none⟩ = some (.int .i64 (r.getD i 0)))
theorem RowAt.rd {w : World} {base : Nat} {V : Value} {r : List Int} (h : RowAt w base V r) : Rd w V r := by
  obtain ⟨a, c, rfl, h1, h2, hz, h3⟩ := h
  refine Rd.mk rfl h1 h2 fun i hi => ?_
  obtain ⟨g, off, rfl, _, h5, _, h6⟩ := h3 (by omega)
  exact ⟨g, off, rfl, h5, h6⟩
theorem RowAt.own {w : World} {base : Nat} {V : Value} {n : Nat} {r : List Int} (h : w.ownsRow base 3 1 V n (r.map (Value.int .i64))) : RowAt w base V r := by
  have hl : r.length = n := by have := h.1; simpa using this
  by_cases h0 : 0 < n
  · have h' := h
    obtain ⟨g, cap, rfl, h1, h2, h3, h4, h5⟩ := own_open h h0
    have hty : ∃ cs fr, w.heap[g]? = some (.cells cs 3 fr) := by
      rcases h'.2 with ⟨he, _⟩ | ⟨g', cap', cur, he, _, hh, _⟩
      · cases he
      · cases he; exact ⟨_, _, hh⟩
    subst hl
    refine ⟨_, cap, rfl, h1, h2, (fun h => by cases h), fun _ => ⟨g, 0, rfl, h3, h4, hty, fun i hi => ?_⟩⟩
    rw [Nat.zero_add]
    exact h5 i _ (by rw [List.getElem?_map, List.getD_eq_getElem?_getD, List.getElem?_eq_getElem hi]; rfl)
  · have hz : r = [] := List.length_eq_zero_iff.1 (by omega)
    subst hz
    simp at hl; subst hl
    rcases h.2 with ⟨rfl, _⟩ | ⟨g, cap, cur, rfl, _, _, h1, h2, _⟩
    · exact ⟨none, 0, rfl, Nat.le_refl _, Nat.zero_le _, fun _ => rfl, fun h => absurd h (by simp)⟩
    · exact ⟨_, cap, rfl, h1, h2, (fun h => by cases h), fun h => absurd h (by simp)⟩
theorem RowAt.kept {w w' : World} {base : Nat} {V : Value} {r : List Int} (h : RowAt w base V r) (hs : w.heap.size ≤ w'.heap.size) (hb : ∀ g, g < w.heap.size → base ≤ g → (∃ cs fr, w.heap[g]? = some (.cells cs 3 fr)) → w'.heap[g]? = w.heap[g]?) : RowAt w' base V r := by
  obtain ⟨a, c, rfl, h1, h2, hz, h3⟩ := h
  refine ⟨a, c, rfl, h1, h2, hz, fun h0 => ?_⟩
  obtain ⟨g, off, rfl, h4, h5, h7, h6⟩ := h3 h0
  have e := hb g h5 h4 h7
  exact ⟨g, off, rfl, h4, by omega, by rw [e]; exact h7, fun i hi => (World.cell?_of_block e).trans (h6 i hi)⟩
theorem RowAt.below {w w' : World} {base B : Nat} {V : Value} {r : List Int} (h : RowAt w base V r) (hb : Below B w w') (hB : w.heap.size ≤ B) : RowAt w' base V r :=
  h.kept hb.size fun g hg _ _ => hb.block g (by omega)
theorem RowAt.store {w : World} {base : Nat} {V : Value} {r : List Int} (h : RowAt w base V r) {a : Addr} (ha : a.block < base) (u : Value) : RowAt (w.setCell a u) base V r :=
  h.kept (by simp [World.setCell]) fun g _ hg _ => Below.heap_setCell w a u g (by omega)
theorem RowAt.lower {w : World} {base base' : Nat} {V : Value} {r : List Int} (h : RowAt w base V r) (hb : base' ≤ base) : RowAt w base' V r := by
  obtain ⟨a, c, rfl, h1, h2, hz, h3⟩ := h
  refine ⟨a, c, rfl, h1, h2, hz, fun h0 => ?_⟩
  obtain ⟨g, off, rfl, h4, h5⟩ := h3 h0
  exact ⟨g, off, rfl, by omega, h5⟩
/-- mv is a slice of the call's own, in blocks not below base, of the rows zss. -/
def OM (w : World) (base : Nat) (mv : Value) (zss : List (List Int)) : Prop :=
  ∃ V : Nat → Value, w.ownsRow base 24 1 mv zss.length ((List.range zss.length).map V) ∧ (zss.length = 0 → mv = .slice none 0 0) ∧ ∀ j, j < zss.length → RowAt w base (V j) (zss.getD j [])
theorem OM.nil (w : World) (base : Nat) : OM w base (.slice none 0 0) [] := ⟨fun _ => .slice none 0 0, World.ownsRow_nil _ _ _ _, fun _ => rfl, fun j hj => absurd hj (Nat.not_lt_zero j)⟩
theorem OM.below {w w' : World} {base B : Nat} {mv : Value} {zss : List (List Int)} (h : OM w base mv zss) (hb : Below B w w') (hB : w.heap.size ≤ B) : OM w' base mv zss := by
  obtain ⟨V, h1, h2, h3⟩ := h
  exact ⟨V, own_below h1 hb hB, h2, fun j hj => (h3 j hj).below hb hB⟩
theorem OM.store {w : World} {base : Nat} {mv : Value} {zss : List (List Int)} (h : OM w base mv zss) {a : Addr} (ha : a.block < base) (u : Value) : OM (w.setCell a u) base mv zss := by
  obtain ⟨V, h1, h2, h3⟩ := h
  exact ⟨V, own_store h1 ha u, h2, fun j hj => (h3 j hj).store ha u⟩
theorem OM.rd {w : World} {base : Nat} {mv : Value} {zss : List (List Int)} (h : OM w base mv zss) : RdM w mv zss := by
  obtain ⟨V, h1, h2, h3⟩ := h
  by_cases h0 : 0 < zss.length
  · obtain ⟨g, cap, rfl, h4, h5, _, h7, h8⟩ := own_open h1 h0
    refine RdM.mk rfl h4 h5 fun _ => ⟨g, 0, V, rfl, h7, fun i hi => ⟨?_, (h3 i hi).rd⟩⟩
    rw [Nat.zero_add]
    exact h8 i _ (by simp [hi])
  · have hz : zss = [] := List.length_eq_zero_iff.1 (by omega)
    subst hz
    rw [h2 rfl]
    exact RdM.mk rfl (Nat.le_refl _) (Nat.zero_le _) fun h => absurd h (by decide)
theorem push_row {w : World} {ops : Array Oper} {rest : List Oper} {o : Oper} {a : Act} {Q : Exit → Act → World → Prop} (hgd : o.guard = none) (s x : Operand)
    (ho : o.op = .call { callee := .builtin .append, args := #[s, x], argTypes := #[22, 22] })
    (base : Nat) (v : Value) (zss : List (List Int)) (hs : a.eval s = v) (hown : OM w base v zss)
    (V : Value) (r : List Int) (hV : RowAt w base V r) (b : Nat) (hx : a.eval x = .slice (some ⟨b, 0, none⟩) 1 1) (hbl : b = w.heap.size)
    (h63 : zss.length + 1 ≤ 1000000000000) (hbase : base ≤ w.heap.size)
    (h : ∀ v' w', OM w' base v' (zss ++ [r]) → Below base w w' → wpList Try.prog ops Q rest (a.put o.dst v') w') :
    wpList Try.prog ops Q (o :: rest) a (w.alloc (.cells #[V] 24)) := by
  subst hbl
  obtain ⟨i, hi, hz0, hz1, hz2⟩ := info_parts Try.infoS
  obtain ⟨U, h1, h2, h3⟩ := hown
  have hone : V.oneCell' = true := by obtain ⟨a, c, rfl, _⟩ := hV; rfl
  refine wpList_append_own _ hgd s x 22 ho base 24 i (.slice none 0 0) 1 24 Try.underlying22 hi hz0 hz1 hz2 rfl (by decide) v zss.length _ hs (h1.alloc _) ⟨w.heap.size, 0, none⟩ 1 1 [V] hx rfl ?_ ?_ ?_ ?_ ?_ ?_
  · intro j u' hj
    match j, hj with
    | 0, hj => simp at hj; subst hj; simp [Addr.add]
  · intro u' hu'; simp at hu'; subst hu'; exact hone
  · unfold maxLen; omega
  · omega
  · simp; omega
  · intro v' w' ho' hg hnil
    have hB : Below base w w' := grown_below hg h1 (Below.refl _ _) (Nat.le_refl _) hbase
    have hsz := grown_size hg
    have hkeep : ∀ g, g < w.heap.size → base ≤ g → (∃ cs fr, w.heap[g]? = some (.cells cs 3 fr)) → w'.heap[g]? = w.heap[g]? := by
      intro g hg1 _ ⟨cs, fr, hcs⟩
      rw [hg.block g (by simp; omega) (fun hgv => ?_)]
      · exact Below.heap_alloc _ _ _ hg1
      · rcases h1.2 with ⟨he, _⟩ | ⟨g', cap', cur, he, _, hh, _⟩
        · rw [he] at hgv; simp [Value.ownBlock] at hgv
        · rw [he] at hgv
          simp only [Value.ownBlock, Option.some.injEq] at hgv
          subst hgv
          rw [hcs] at hh
          cases hh
    refine h v' w' ⟨fun j => if j < zss.length then U j else V, ?_, ?_, ?_⟩ hB
    · rw [List.length_append, List.length_singleton, List.range_succ, List.map_append]
      have e1 : (List.range zss.length).map (fun j => if j < zss.length then U j else V) = (List.range zss.length).map U :=
        List.map_congr_left fun j hj => by rw [if_pos (List.mem_range.1 hj)]
      rw [e1]
      simpa using ho'
    · intro h0; simp at h0
    · intro j hj
      rw [List.length_append, List.length_singleton] at hj
      show RowAt w' base (if j < zss.length then U j else V) _
      by_cases e : j < zss.length
      · rw [if_pos e, show (zss ++ [r]).getD j [] = zss.getD j [] by rw [List.getD_eq_getElem?_getD, List.getElem?_append_left e, List.getD_eq_getElem?_getD]]
        exact (h3 j e).kept (by omega) hkeep
      · rw [if_neg e, show (zss ++ [r]).getD j [] = r by
          rw [List.getD_eq_getElem?_getD, List.getElem?_append_right (by omega), show j - zss.length = 0 by omega]; rfl]
        exact hV.kept (by omega) hkeep
end Go.Proofs.Ytidnmdfpnmahpaa
