/- slices.Delete of one, not the last, of a row of one's own. Condition: it has at most 2^40. -/
import Derived.Test.YthaiopgmncnekaaGreatDoorQuIns
set_option linter.unusedSimpArgs false
set_option linter.unusedVariables false
set_option maxRecDepth 20000
namespace Go.Proofs.YthaiopgmncnekaaGreatDoor.Qu
open Go.RowKit
/-- An append, its run known, as a step of a region that draws. -/
theorem step_append_runI {P : Program} {ops : Array Oper} {o : Oper} {a : Act} {w : World} {K : Act → World → Prop} {Q : Exit → Act → World → Prop} {E : Prop}
    (hg : o.guard = none) (d x : Operand) (dT sT : TypeId) (hop : o.op = Op.call { callee := Callee.builtin Builtin.append, args := #[d, x], argTypes := #[dT, sT] })
    (v u : Value) (hd : a.eval d = v) (hx : a.eval x = u) {v' : Value} {w' : World} (hr : (Builtin.append_ #[dT, sT] o.type #[v, u]).run P w = .ok v' w') (hK : K (a.put o.dst v') w') :
    if Region.wanted o (yielded ops a.tmps) = true then Oper.wp P o a w K Q else E := by
  have hw : Region.wanted o (yielded ops a.tmps) = true := by simp [Region.wanted, hg]
  rw [if_pos hw]
  unfold Oper.wp
  simp [execOp, hop, resolve, invoke, builtin, hd, hx, hr, Result.andThen]
  exact hK
/-- clear, of a part of a row, of elements of k cells. -/
theorem run_clear_rowK {P : Program} (w : World) (k : Nat) (t e ty : TypeId) (z : Value) (ht : P.underlying t = some (.slice e)) (hv : ∀ w, (zeroValue e).run P w = .ok z w) (hz : z.cells.size = k) (h1 : ∀ v ∈ z.cells.toList, v.oneCell' = true)
    (g o n c : Nat) (hn : 0 < n) (hk : 0 < k) (cur : Array Value) (t' : TypeId) (hg : w.heap[g]? = some (.cells cur t' (0, 0))) (hfit : o + n * k ≤ cur.size) :
    (Builtin.clear_ #[t] ty #[.slice (some ⟨g, o, none⟩) n c]).run P w = .ok (.tuple #[]) (w.setRow g (cur.toList.take o ++ (Builtin.zeroCells z.cells n).toList ++ cur.toList.drop (o + n * k)).toArray) := by
  have hl : (Builtin.zeroCells z.cells n).toList.length = n * k := by rw [Array.length_toList, size_zeroCells, hz]
  have hone : ∀ v ∈ (Builtin.zeroCells z.cells n).toList, v.oneCell' = true := by
    intro v hv
    simp only [Builtin.zeroCells, Array.toList_map, List.mem_map] at hv
    obtain ⟨j, -, rfl⟩ := hv
    have hlt : j % z.cells.size < z.cells.size := Nat.mod_lt _ (by omega)
    rw [getElem!_pos z.cells _ hlt]
    exact h1 _ (by simp)
  have hst := run_storeCells_at P g o t' _ 0 cur w hg (by rw [hl]; simpa using hfit) hone
  rw [hl] at hst
  simp only [Nat.add_zero] at hst
  obtain ⟨m, rfl⟩ : ∃ m, n = m + 1 := ⟨n - 1, by omega⟩
  simp [Builtin.clear_, run_underlying ht, hv, hst]
def delL (l : List Rk) (i : Nat) : List Rk := l.take i ++ l.drop (i + 1)
set_option maxHeartbeats 1600000 in
set_option maxRecDepth 20000 in
theorem del_any (g n cap base i : Nat) (l : List Rk) (w : World) (h : Own w base (.slice (some ⟨g, 0, none⟩) n cap) l) (hn : l.length = n) (hi : i + 1 < n) (hb40 : n ≤ 1099511627776) :
    Calls Tryz.prog 34 #[.slice (some ⟨g, 0, none⟩) n cap, .int .i64 i, .int .i64 ((i + 1 : Nat) : Int)] w fun e w' => e = .returned (.slice (some ⟨g, 0, none⟩) (n - 1) cap) ∧ Own w' base (.slice (some ⟨g, 0, none⟩) (n - 1) cap) (delL l i) ∧ w.grownBy w' (some g) := by
  obtain ⟨a', cap', he, hlc, hcm, hno, hso⟩ := h.open
  injection he with e1 e2 e3
  subst e1; subst e3
  obtain ⟨g', cur, he', hbg, hgs, hg, hcs, htk⟩ := hso _ rfl
  cases he'
  rw [hn] at htk hlc
  obtain ⟨i0, hi0, hz0, hz1, hz2⟩ := info_parts Tryz.info43
  have hcl : cur.toList.length = cap * 3 := by simpa using hcs
  have hD : (rkL (l.drop (i + 1))).length = (n - (i + 1)) * 3 := by rw [rkL_len, List.length_drop, hn]
  have hT : (rkL (l.take i)).length = i * 3 := by rw [rkL_len, List.length_take, hn, Nat.min_eq_left (by omega)]
  have hcells : ∀ j u, (rkL (l.drop (i + 1)))[j]? = some u → w.cell? ((⟨g, (i + 1) * 3, none⟩ : Addr).add j) = some u := fun j u hj => by
    have h4 := h.cells (g := g) rfl ((i + 1) * 3 + j) u (by rw [← hj, ← rkL_drop, List.getElem?_drop])
    rw [Addr.add_lit] at h4 ⊢
    rw [← Nat.zero_add ((i + 1) * 3), Nat.add_assoc]
    exact h4
  obtain ⟨cur1, hcur1⟩ : ∃ c, c = (splice cur.toList (i * 3) (rkL (l.drop (i + 1)))).toArray := ⟨_, rfl⟩
  obtain ⟨W1, hW1⟩ : ∃ W1, W1 = w.drew.setRow g cur1 := ⟨_, rfl⟩
  have hap : ∀ ty, (Builtin.append_ #[26, 26] ty #[.slice (some ⟨g, 0, none⟩) i cap, .slice (some ⟨g, (i + 1) * 3, none⟩) (n - (i + 1)) (cap - (i + 1))]).run Tryz.prog w.drew = .ok (.slice (some ⟨g, 0, none⟩) (n - 1) cap) W1 := fun ty => by
    have := run_append_room (P := Tryz.prog) w.drew 26 ty 43 i0 Tryz.underlying26 hi0 g i cap cur hg ⟨g, (i + 1) * 3, none⟩ (n - (i + 1)) (cap - (i + 1)) (rkL (l.drop (i + 1))) (by rw [hD, hz1]) hcells (rkL_one _) (by omega) (by rw [hD, hz1, hcs]; omega)
    rw [hz1] at this
    rw [this, hW1, hcur1, show i + (n - (i + 1)) = n - 1 by omega]; rfl
  have hs1 : cur1.size = cap * 3 := by rw [hcur1, List.size_toArray, splice_len _ _ _ (by rw [hcl, hD]; omega), hcl]
  have hg1 : W1.heap[g]? = some (.cells cur1 43 (0, 0)) := by rw [hW1]; exact setRow_heap w.drew g cur cur1 43 (0, 0) hg
  obtain ⟨cur2, hcur2⟩ : ∃ c, c = (cur1.toList.take ((n - 1) * 3) ++ (Builtin.zeroCells #[.int .i64 0, .int .i64 0, .int .i64 0] 1).toList ++ cur1.toList.drop ((n - 1) * 3 + 1 * 3)).toArray := ⟨_, rfl⟩
  obtain ⟨W2, hW2⟩ : ∃ W2, W2 = W1.setRow g cur2 := ⟨_, rfl⟩
  have hcr : ∀ ty, (Builtin.clear_ #[26] ty #[.slice (some ⟨g, (n - 1) * 3, none⟩) 1 (cap - (n - 1))]).run Tryz.prog W1 = .ok (.tuple #[]) W2 := fun ty => by
    rw [run_clear_rowK W1 3 26 43 ty (.agg #[.int .i64 0, .int .i64 0, .int .i64 0]) Tryz.underlying26 Tryz.zeroValue43 rfl (by decide) g ((n - 1) * 3) 1 (cap - (n - 1)) (by omega) (by omega) cur1 43 hg1 (by rw [hs1]; omega), hW2, hcur2]
    rfl
  have hz3 : (Builtin.zeroCells #[Value.int .i64 0, Value.int .i64 0, Value.int .i64 0] 1).toList.length = 3 := by rw [Array.length_toList, size_zeroCells]; rfl
  have hs2 : cur2.size = cap * 3 := by
    rw [hcur2, List.size_toArray]
    simp only [List.length_append, List.length_take, List.length_drop, hz3, Array.length_toList, hs1]
    omega
  have hfin : Own W2 base (.slice (some ⟨g, 0, none⟩) (n - 1) cap) (delL l i) := by
    refine Own.mk (by unfold delL; simp only [List.length_append, List.length_take, List.length_drop, hn]; omega) hbg (by rw [hW2]; exact setRow_heap W1 g cur1 cur2 43 (0, 0) hg1) (by omega) hcm hs2 ?_
    have hta : cur.toList.take (i * 3) = rkL (l.take i) := by
      rw [← rkL_take, ← htk, List.take_take, Nat.min_eq_left (by omega)]
    have e5 : cur1.toList.take ((n - 1) * 3) = rkL (l.take i) ++ rkL (l.drop (i + 1)) := by
      rw [hcur1]
      unfold splice
      rw [hta]
      exact List.take_left' (by rw [List.length_append, hT, hD]; omega)
    rw [hcur2]
    unfold delL
    rw [rkL_app, ← e5]
    show List.take _ (_ ++ _ ++ _) = _
    rw [List.append_assoc]
    exact List.take_left' (by rw [List.length_take, Array.length_toList, hs1]; omega)
  have hgr : w.grownBy W2 (some g) := by
    rw [hW2]
    refine setRow_grown ?_ (.inl rfl)
    rw [hW1]
    exact setRow_grown ⟨rfl, rfl, rfl, Nat.le_refl _, fun _ _ _ => rfl⟩ (.inl rfl)
  have HF := Lib.hid hfin
  have HGR := Lib.hid hgr
  have HAP := Lib.hid hap
  have HCR := Lib.hid hcr
  have b1 : IntKind.i64.wrap ((i : Int) + 1) = (i : Int) + 1 := by rw [IntKind.wrap_i64]; omega
  have hne : ((i : Int) == ((i + 1 : Nat) : Int)) = false := by rw [beq_eq_false_iff_ne]; omega
  have hb1 : ¬ (cap = i) := by omega
  have hb2 : ¬ (cap = i + 1) := by omega
  have hb3 : ¬ (cap = n - 1) := by omega
  have hb4 : i + 1 ≤ n := by omega
  have hb5 : i ≤ n := by omega
  have hb6 : n - 1 ≤ n := by omega
  have hb7 : i + 1 ≤ cap := by omega
  have hb8 : n - (n - 1) = 1 := by omega
  have HB8 := Lib.hid hb8
  clear hg hgs hbg e2 hn hfin hgr hap hcr hcur1 hcur2 hW1 hcells hno hso h htk hcs hcl hD hT hz0 hz1 hz2 hi0 hs1 hg1 hW2 hs2 hz3 hb8 b1
  go_enter Tryz.func34, Tryz.ntmps34
  go_wp2_with fail
  have hb9 : i ≤ cap := by omega
  have hc1 : (0 : Int) ≤ (i : Int) + 1 := by omega
  have hc2 : (i : Int) + 1 ≤ (n : Int) := by omega
  have hc3 : ((i : Int) + 1).toNat = i + 1 := by omega
  go_region_law (refine step_append_runI rfl _ _ 26 26 rfl _ _ (by simp [Act.eval, Act.put]) (by simp [Act.eval, Act.put]) (HAP.out _) ?_)
  clear hb9 hc1 hc2 hc3 hne
  have hcr := HCR.out
  have hb8 := HB8.out
  have hd1 : ((n - 1 : Nat) : Int) ≤ (n : Int) := by omega
  go_wp2_with fail
  go_ret
  exact ⟨rfl, HF.out, HGR.out⟩
end Go.Proofs.YthaiopgmncnekaaGreatDoor.Qu
