/- Appends at a step of a region that draws: a read slice onto a row of the call's own; a row onto a slice of rows. No condition. -/
import Derived.Test.YtidnmdfpnmahpaaGrow
import Derived.Test.YtidnmdfpnmahpaaConcI
import Derived.Deep.AppendLies
import Derived.Deep.RegionLaw
set_option linter.unusedSimpArgs false
set_option linter.unusedVariables false
set_option maxRecDepth 20000
namespace Go.Proofs.Ytidnmdfpnmahpaa
open Go.RowKit
theorem step_run {P : Program} {w : World} {ops : Array Oper} {o : Oper} {a : Act} {K : Act → World → Prop} {Q : Exit → Act → World → Prop} {E : Prop} (hgd : o.guard = none) (s x : Operand) (t : TypeId)
    (ho : o.op = .call { callee := .builtin .append, args := #[s, x], argTypes := #[t, t] }) (v vx : Value) (hs : a.eval s = v) (hx : a.eval x = vx)
    (v' : Value) (w' : World) (hr : (Builtin.append_ #[t, t] o.type #[v, vx]).run P w = .ok v' w') (h : K (a.put o.dst v') w') :
    if Region.wanted o (yielded ops a.tmps) = true then Oper.wp P o a w K Q else E := by
  have hw : Region.wanted o (yielded ops a.tmps) = true := by simp [Region.wanted, hgd]
  rw [if_pos hw]
  unfold Oper.wp execOp
  simp only [ho, resolve, invoke, builtin, Sem.run_bind, Sem.run_pure, Result.andThen_ok, List.map_toArray, List.map_cons, List.map_nil, hs, hx, hr]
  exact h
theorem run_list {P : Program} {w : World} (t ty : TypeId) (base : Nat) (e : TypeId) (i : TypeInfo) (z : Value) (bytes : Nat) (ht : P.underlying t = some (.slice e)) (hi : P.info? e = some i) (hz : i.zero = some z)
    (hsize : i.size = 1) (hby : i.bytes = bytes) (hb8 : bytes ≤ 8) (hzs : z.cells.size = 1)
    (v : Value) (n : Nat) (xs : List Value) (hown : w.ownsRow base e 1 v n xs)
    (ao : Option Addr) (m c : Nat) (news : List Value) (hn : news.length = m) (hnone : ao = none → m = 0 ∧ c = 0)
    (hc : ∀ ad, ao = some ad → ∀ j u, news[j]? = some u → w.cell? (ad.add j) = some u) (h1c : ∀ u ∈ news, u.oneCell' = true)
    (h63 : n + m ≤ 17592186044416) (hbase : base ≤ w.heap.size) :
    ∃ v' w', (Builtin.append_ #[t, t] ty #[v, .slice ao m c]).run P w = .ok v' w' ∧ w'.ownsRow base e 1 v' (n + m) (xs ++ news) ∧ w.grownBy w' v.ownBlock := by
  cases ao with
  | some ad =>
    have hmul := Nat.mul_le_mul (Nat.le_refl (n + m)) hb8
    obtain ⟨v', w', hr, h2, h3, -⟩ := run_append_own (P := P) w base t ty e i z 1 bytes ht hi hz hsize hby hzs (by decide) v n xs hown ad m c news (by omega) (hc ad rfl) h1c (by unfold maxLen; omega) (by omega) hbase
    exact ⟨v', w', hr, h2, h3⟩
  | none =>
    obtain ⟨rfl, rfl⟩ := hnone rfl
    have hnews : news = [] := List.eq_nil_of_length_eq_zero hn
    subst hnews
    have hrun := run_append_owned_none (P := P) (w := w) base t ty e i 1 ht hi v n xs hown
    exact ⟨v, w, hrun, by simpa using hown, World.grownBy.refl _ _⟩
theorem step_list {P : Program} {w : World} {ops : Array Oper} {o : Oper} {a : Act} {K : Act → World → Prop} {Q : Exit → Act → World → Prop} {E : Prop} (hgd : o.guard = none) (s x : Operand) (t : TypeId)
    (ho : o.op = .call { callee := .builtin .append, args := #[s, x], argTypes := #[t, t] })
    (base : Nat) (e : TypeId) (i : TypeInfo) (z : Value) (bytes : Nat) (ht : P.underlying t = some (.slice e)) (hi : P.info? e = some i) (hz : i.zero = some z)
    (hsize : i.size = 1) (hby : i.bytes = bytes) (hb8 : bytes ≤ 8) (hzs : z.cells.size = 1)
    (v : Value) (n : Nat) (xs : List Value) (hs : a.eval s = v) (hown : w.ownsRow base e 1 v n xs)
    (ao : Option Addr) (m c : Nat) (news : List Value) (hx : a.eval x = .slice ao m c) (hn : news.length = m) (hnone : ao = none → m = 0 ∧ c = 0)
    (hc : ∀ ad, ao = some ad → ∀ j u, news[j]? = some u → w.cell? (ad.add j) = some u) (h1c : ∀ u ∈ news, u.oneCell' = true)
    (h63 : n + m ≤ 17592186044416) (hbase : base ≤ w.heap.size)
    (h : ∀ v' w', w'.ownsRow base e 1 v' (n + m) (xs ++ news) → w.grownBy w' v.ownBlock → K (a.put o.dst v') w') :
    if Region.wanted o (yielded ops a.tmps) = true then Oper.wp P o a w K Q else E := by
  obtain ⟨v', w', hr, h1, h2⟩ := run_list (P := P) t o.type base e i z bytes ht hi hz hsize hby hb8 hzs v n xs hown ao m c news hn hnone hc h1c h63 hbase
  exact step_run hgd s x t ho v _ hs hx v' w' hr (h v' w' h1 h2)
theorem run_row {w : World} (ty : TypeId) (base : Nat) (v : Value) (zss : List (List Int)) (hown : OM w base v zss)
    (V : Value) (r : List Int) (hV : RowAt w base V r) (h63 : zss.length + 1 ≤ 1000000000000) (hbase : base ≤ w.heap.size) :
    ∃ v' w', (Builtin.append_ #[22, 22] ty #[v, .slice (some ⟨w.heap.size, 0, none⟩) 1 1]).run Try.prog (w.alloc (.cells #[V] 24)) = .ok v' w' ∧ OM w' base v' (zss ++ [r]) ∧ Below base w w' := by
  obtain ⟨i, hi, hz0, hz1, hz2⟩ := info_parts Try.infoS
  obtain ⟨U, h1, h2, h3⟩ := hown
  have hone : V.oneCell' = true := by obtain ⟨a, c, rfl, _⟩ := hV; rfl
  obtain ⟨v', w', hr, ho', hg, -⟩ := run_append_own (P := Try.prog) (w.alloc (.cells #[V] 24)) base 22 ty 24 i (.slice none 0 0) 1 24 Try.underlying22 hi hz0 hz1 hz2 rfl (by decide) v zss.length _ (h1.alloc _) ⟨w.heap.size, 0, none⟩ 1 1 [V] rfl (by
    intro j u' hj
    match j, hj with
    | 0, hj => simp at hj; subst hj; simp [Addr.add]) (by intro u' hu'; simp at hu'; subst hu'; exact hone) (by unfold maxLen; omega) (by omega) (by simp; omega)
  refine ⟨v', w', hr, ?_⟩
  have hB : Below base w w' := grown_below hg h1 (Below.refl _ _) (Nat.le_refl _) hbase
  have hsz := grown_size hg
  have hkeep : ∀ g, g < w.heap.size → base ≤ g → (∃ cs fr, w.heap[g]? = some (.cells cs 3 fr)) → w'.heap[g]? = w.heap[g]? := by
    intro g hg1 _ ⟨cs, fr, hcs⟩
    rw [hg.block g (by simp; omega) (fun hgv => ?_)]
    · exact Below.heap_alloc _ _ _ hg1
    · rcases h1.2 with ⟨he, _⟩ | ⟨g', cap', cur, he, _, hh, _⟩
      · rw [he] at hgv; simp [Value.ownBlock] at hgv
      · rw [he] at hgv
        simp only [Value.ownBlock, Option.some.injEq] at hgv
        subst hgv
        rw [hcs] at hh
        cases hh
  refine ⟨⟨fun j => if j < zss.length then U j else V, ?_, ?_, ?_⟩, hB⟩
  · rw [List.length_append, List.length_singleton, List.range_succ, List.map_append]
    have e1 : (List.range zss.length).map (fun j => if j < zss.length then U j else V) = (List.range zss.length).map U :=
      List.map_congr_left fun j hj => by rw [if_pos (List.mem_range.1 hj)]
    rw [e1]
    simpa using ho'
  · intro h0; simp at h0
  · intro j hj
    rw [List.length_append, List.length_singleton] at hj
    show RowAt w' base (if j < zss.length then U j else V) _
    by_cases e : j < zss.length
    · rw [if_pos e, show (zss ++ [r]).getD j [] = zss.getD j [] by rw [List.getD_eq_getElem?_getD, List.getElem?_append_left e, List.getD_eq_getElem?_getD]]
      exact (h3 j e).kept (by omega) hkeep
    · rw [if_neg e, show (zss ++ [r]).getD j [] = r by
        rw [List.getD_eq_getElem?_getD, List.getElem?_append_right (by omega), show j - zss.length = 0 by omega]; rfl]
      exact hV.kept (by omega) hkeep
theorem step_row {w : World} {ops : Array Oper} {o : Oper} {a : Act} {K : Act → World → Prop} {Q : Exit → Act → World → Prop} {E : Prop} (hgd : o.guard = none) (s x : Operand)
    (ho : o.op = .call { callee := .builtin .append, args := #[s, x], argTypes := #[22, 22] })
    (base : Nat) (v : Value) (zss : List (List Int)) (hs : a.eval s = v) (hown : OM w base v zss)
    (V : Value) (r : List Int) (hV : RowAt w base V r) (b : Nat) (hx : a.eval x = .slice (some ⟨b, 0, none⟩) 1 1) (hbl : b = w.heap.size)
    (h63 : zss.length + 1 ≤ 1000000000000) (hbase : base ≤ w.heap.size)
    (h : ∀ v' w', OM w' base v' (zss ++ [r]) → Below base w w' → K (a.put o.dst v') w') :
    if Region.wanted o (yielded ops a.tmps) = true then Oper.wp Try.prog o a (w.alloc (.cells #[V] 24)) K Q else E := by
  subst hbl
  obtain ⟨v', w', hr, h1, h2⟩ := run_row o.type base v zss hown V r hV h63 hbase
  exact step_run hgd s x 22 ho v _ hs hx v' w' hr (h v' w' h1 h2)
end Go.Proofs.Ytidnmdfpnmahpaa
