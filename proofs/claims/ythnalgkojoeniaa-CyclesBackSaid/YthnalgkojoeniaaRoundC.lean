/- cycles.Round: the order whose rounds a list has so. No condition. -/
import Derived.Test.YthnalgkojoeniaaBackC
import Derived.Test.YthnalgkojoeniaaPush
set_option linter.unusedSimpArgs false
set_option linter.unusedVariables false
namespace Go.Proofs.Ythnalgkojoeniaa
open Go.RowKit
theorem own_ty {w : World} {base : Nat} {e : TypeId} {v : Value} {n : Nat} {xs : List Value} (h : w.ownsRow base e 1 v n xs) {b : Nat} (hb : v.ownBlock = some b) : ∃ cs, w.heap[b]? = some (.cells cs e (0, 0)) := by
  rcases h.2 with ⟨rfl, -⟩ | ⟨g, cap, cur, rfl, hbs, hgg, -⟩
  · cases hb
  · cases hb; exact ⟨_, hgg⟩
/-- A store in a block of another type. -/
theorem own_setOther {w : World} {base : Nat} {e : TypeId} {v : Value} {n : Nat} {xs : List Value} (h : w.ownsRow base e 1 v n xs) {a : Addr} {cs : Array Value} {t : TypeId} {fr : Nat × Nat} (ha : w.heap[a.block]? = some (.cells cs t fr)) (hne : t ≠ e) (u : Value) : (w.setCell a u).ownsRow base e 1 v n xs := by
  refine ⟨h.1, ?_⟩
  rcases h.2 with hn | ⟨g, cap, cur, rfl, hbs, hgg, rest⟩
  · exact .inl hn
  · refine .inr ⟨g, cap, cur, rfl, hbs, ?_, rest⟩
    rw [Below.heap_setCell _ _ _ _ (fun e2 => by rw [← e2, hgg] at ha; cases ha; exact hne rfl)]
    exact hgg
/-- A row in a block below Bl. -/
def RbAt (w : World) (base Bl : Nat) (V : Value) (r : List Int) : Prop := RowAt w base V r ∧ 0 < r.length ∧ ∀ h, V.ownBlock = some h → h < Bl
theorem RbAt.kept {w w' : World} {base Bl : Nat} {V : Value} {r : List Int} (h : RbAt w base Bl V r) (hs : w.heap.size ≤ w'.heap.size) (hb : ∀ g, g < w.heap.size → g < Bl → (∃ cs fr, w.heap[g]? = some (.cells cs 3 fr)) → w'.heap[g]? = w.heap[g]?) : RbAt w' base Bl V r := by
  obtain ⟨h1, h0, h2⟩ := h
  refine ⟨?_, h0, h2⟩
  obtain ⟨a, c, rfl, k1, k2, k3, k4⟩ := h1
  refine ⟨a, c, rfl, k1, k2, k3, fun _ => ?_⟩
  obtain ⟨g, off, rfl, k5, k6, k7, k8⟩ := k4 h0
  have e := hb g k6 (h2 g rfl) k7
  exact ⟨g, off, rfl, k5, by omega, by rw [e]; exact k7, fun i hi => (World.cell?_of_block e).trans (k8 i hi)⟩
/-- A slice of rows of one's own, the last one still growing. -/
def OL (w : World) (base Bl : Nat) (lv : Value) (Q : List (List Nat)) (r : List Nat) : Prop :=
  ∃ V : Nat → Value, w.ownsRow base 22 1 lv (Q.length + 1) ((List.range (Q.length + 1)).map V) ∧ (∀ j, j < Q.length → RbAt w base Bl (V j) (ints (Q.getD j []))) ∧ w.ownsRow Bl 3 1 (V Q.length) r.length ((ints r).map (Value.int .i64)) ∧ base ≤ Bl ∧ Bl ≤ w.heap.size
theorem rows_get (Q : List (List Nat)) (j : Nat) (h : j < Q.length) : (rows Q).getD j [] = ints (Q.getD j []) := by
  simp [rows, List.getD_eq_getElem?_getD, List.getElem?_eq_getElem h]
theorem OL.om {w : World} {base Bl : Nat} {lv : Value} {Q : List (List Nat)} {r : List Nat} (h : OL w base Bl lv Q r) : OM w base lv (rows (Q ++ [r])) := by
  obtain ⟨V, h1, h2, h3, h4, h5⟩ := h
  have hl : (rows (Q ++ [r])).length = Q.length + 1 := by rw [rows_len, List.length_append]; rfl
  refine ⟨V, by rw [hl]; exact h1, fun h => by omega, fun j hj => ?_⟩
  rw [hl] at hj
  rw [rows_get _ _ (by rw [List.length_append]; exact hj)]
  by_cases e : j < Q.length
  · rw [show (Q ++ [r]).getD j [] = Q.getD j [] by rw [List.getD_eq_getElem?_getD, List.getElem?_append_left e, List.getD_eq_getElem?_getD]]
    exact (h2 j e).1
  · obtain rfl : j = Q.length := by omega
    rw [show (Q ++ [r]).getD Q.length [] = r by simp [List.getD_eq_getElem?_getD]]
    refine (RowAt.own (n := r.length) ?_).lower h4
    exact h3
/-- nil appended to rows that are whole. -/
theorem push_nil {w : World} {ops : Array Oper} {rest : List Oper} {o : Oper} {a : Act} {Q : Exit → Act → World → Prop} (hgd : o.guard = none) (s x : Operand)
    (ho : o.op = .call { callee := .builtin .append, args := #[s, x], argTypes := #[30, 30] })
    (base : Nat) (v : Value) (R : List (List Nat)) (hs : a.eval s = v) (hown : OM w base v (rows R)) (hne : ∀ r ∈ R, r ≠ [])
    (b : Nat) (hx : a.eval x = .slice (some ⟨b, 0, none⟩) 1 1) (hbl : b = w.heap.size)
    (h63 : R.length + 1 ≤ 1000000000000) (hbase : base ≤ w.heap.size)
    (h : ∀ v' w', OL w' base w'.heap.size v' R [] → Below base w w' → wpList Try.prog ops Q rest (a.put o.dst v') w') :
    wpList Try.prog ops Q (o :: rest) a (w.alloc (.cells #[.slice none 0 0] 22)) := by
  subst hbl
  obtain ⟨i, hi, hz0, hz1, hz2⟩ := info_parts Try.infoS
  obtain ⟨U, h1, h2, h3⟩ := hown
  rw [rows_len] at h1 h3
  refine wpList_append_own _ hgd s x 30 ho base 22 i (.slice none 0 0) 1 24 Try.underlying30 hi hz0 hz1 hz2 rfl (by decide) v R.length _ hs (h1.alloc _) ⟨w.heap.size, 0, none⟩ 1 1 [.slice none 0 0] hx rfl ?_ ?_ ?_ ?_ ?_ ?_
  · intro j u' hj
    match j, hj with
    | 0, hj => simp at hj; subst hj; simp [Addr.add]
  · intro u' hu'; simp at hu'; subst hu'; rfl
  · unfold maxLen; omega
  · omega
  · simp; omega
  · intro v' w' ho' hg hnil
    have hB : Below base w w' := grown_below hg h1 (Below.refl _ _) (Nat.le_refl _) hbase
    have hsz := grown_size hg
    have hkeep : ∀ g, g < w.heap.size → base ≤ g → (∃ cs fr, w.heap[g]? = some (.cells cs 3 fr)) → w'.heap[g]? = w.heap[g]? := by
      intro g hg1 _ ⟨cs, fr, hcs⟩
      rw [hg.block g (by simp; omega) (fun hgv => ?_)]
      · exact Below.heap_alloc _ _ _ hg1
      · obtain ⟨cs', hcs'⟩ := own_ty h1 hgv.symm
        rw [hcs] at hcs'
        cases hcs'
    refine h v' w' ⟨fun j => if j < R.length then U j else .slice none 0 0, ?_, fun j hj => ?_, ?_, ?_, Nat.le_refl _⟩ hB
    · rw [List.range_succ, List.map_append]
      have e1 : (List.range R.length).map (fun j => if j < R.length then U j else Value.slice none 0 0) = (List.range R.length).map U :=
        List.map_congr_left fun j hj => by rw [if_pos (List.mem_range.1 hj)]
      rw [e1]
      simpa using ho'
    · show RbAt _ _ _ (if j < R.length then U j else _) _
      rw [if_pos hj]
      have hr := h3 j hj
      rw [rows_get _ _ hj] at hr
      have hr' := hr.kept (w' := w') (by omega) hkeep
      have hm : R.getD j [] ∈ R := by rw [List.getD_eq_getElem?_getD, List.getElem?_eq_getElem hj]; exact List.getElem_mem hj
      have hp : 0 < (ints (R.getD j [])).length := by
        have := List.length_pos_iff.2 (hne _ hm)
        simpa [ints] using this
      refine ⟨hr', hp, fun b hb => ?_⟩
      obtain ⟨a, c, he, -, -, -, k4⟩ := hr'
      obtain ⟨g, off, rfl, -, k6, -, -⟩ := k4 hp
      rw [he] at hb
      cases hb
      exact k6
    · show w'.ownsRow _ _ _ (if R.length < R.length then U R.length else _) _ _
      rw [if_neg (by omega)]
      exact World.ownsRow_nil _ _ _ _
    · exact Nat.le_trans hbase hB.size
/-- The growing row, one more. -/
theorem OL.next {w w5 : World} {base Bl g cap : Nat} {Q : List (List Nat)} {r : List Nat} {V : Nat → Value} {V' : Value} {x : Nat} {n : Nat}
    (h1 : w.ownsRow base 22 1 (.slice (some ⟨g, 0, none⟩) n cap) (Q.length + 1) ((List.range (Q.length + 1)).map V)) (h2 : ∀ j, j < Q.length → RbAt w base Bl (V j) (ints (Q.getD j []))) (h3 : w.ownsRow Bl 3 1 (V Q.length) r.length ((ints r).map (Value.int .i64))) (h4 : base ≤ Bl) (h5 : Bl ≤ w.heap.size)
    (hn : n = Q.length + 1) {o : Obj}
    (hown : w5.ownsRow Bl 3 1 V' (r.length + 1) ((ints r ++ [(x : Int)]).map (Value.int .i64))) (hgr : (w.alloc o).grownBy w5 (V Q.length).ownBlock) :
    OL (w5.setCell ⟨g, Q.length, none⟩ V') base Bl (.slice (some ⟨g, 0, none⟩) n cap) Q (r ++ [x]) ∧ Below base w (w5.setCell ⟨g, Q.length, none⟩ V') ∧ w5.cell? ⟨g, Q.length, none⟩ = some (V Q.length) ∧ w5.frozen? ⟨g, Q.length, none⟩ = false := by
  subst hn
  obtain ⟨hbg, hgw⟩ := h1.lt g rfl
  obtain ⟨cs, hcs⟩ := own_ty h1 (b := g) rfl
  have hsz := grown_size hgr
  have hold : ∀ b, b < w.heap.size → some b ≠ (V Q.length).ownBlock → w5.heap[b]? = w.heap[b]? := fun b hb hne => by
    rw [hgr.block b (by simp; omega) hne]
    exact Below.heap_alloc _ _ _ hb
  have hg5 : w5.heap[g]? = some (.cells cs 22 (0, 0)) := by
    rw [hold g hgw (fun e => ?_)]
    · exact hcs
    · obtain ⟨cs', hcs'⟩ := own_ty h3 e.symm
      rw [hcs] at hcs'
      cases hcs'
  have hB5 : Below Bl w w5 := grown_below hgr h3 (Below.refl _ _) (Nat.le_refl _) h5
  have q1 : w5.ownsRow base 22 1 (.slice (some ⟨g, 0, none⟩) (Q.length + 1) cap) (Q.length + 1) ((List.range (Q.length + 1)).map V) := by
    refine ⟨h1.1, ?_⟩
    rcases h1.2 with ⟨he, -⟩ | ⟨g', cap', cur, heq, hbs, hgg, rest⟩
    · cases he
    · refine .inr ⟨g', cap', cur, heq, hbs, ?_, rest⟩
      cases heq
      rw [hcs] at hgg
      rw [hg5]; exact hgg
  refine ⟨⟨fun j => if j = Q.length then V' else V j, ?_, fun j hj => ?_, ?_, h4, ?_⟩, (hB5.mono h4).setCell hbg _, ?_, World.ownsRow.frozenAt q1 _⟩
  rotate_left 4
  · rw [q1.cellAt Q.length (by simp)]
    simp
  · have := (q1.stored Q.length V').1
    have e : ((List.range (Q.length + 1)).map V).set Q.length V' = (List.range (Q.length + 1)).map (fun j => if j = Q.length then V' else V j) := by
      apply List.ext_getElem (by simp)
      intro i a b
      simp only [List.getElem_set, List.getElem_map, List.getElem_range]
      by_cases e : Q.length = i
      · subst e; simp
      · rw [if_neg e, if_neg (fun h => e h.symm)]
    rw [e] at this
    exact this
  · show RbAt _ _ _ (if j = Q.length then V' else V j) _
    rw [if_neg (by omega)]
    refine (h2 j hj).kept (by simp [World.setCell]; omega) fun b hb hbl ⟨cs', fr, hcs'⟩ => ?_
    rw [Below.heap_setCell _ _ _ _ (fun e => by simp only at e; subst e; rw [hcs] at hcs'; cases hcs')]
    exact hold b hb fun e => by have := h3.lt b e.symm; omega
  · show (w5.setCell ⟨g, Q.length, none⟩ V').ownsRow _ _ _ (if Q.length = Q.length then V' else _) _ _
    rw [if_pos rfl]
    have e : ints (r ++ [x]) = ints r ++ [(x : Int)] := by simp [ints]
    rw [e, List.length_append]
    exact own_setOther (a := ⟨g, Q.length, none⟩) hown hg5 (by decide) V'
  · simp [World.setCell]; omega
/-- The list as naturals. -/
def nats (zs : List Int) : List Nat := (List.range zs.length).map (nd zs)
theorem nats_len (zs : List Int) : (nats zs).length = zs.length := by simp [nats]
theorem nats_perm {zs : List Int} (h : OkP zs) : (nats zs).Perm (List.range zs.length) := by
  have hnd : (nats zs).Nodup := by
    refine List.pairwise_map.2 (List.Pairwise.imp_of_mem ?_ List.pairwise_lt_range)
    intro a b ha hb hab e
    have := h.inj (List.mem_range.1 ha) (List.mem_range.1 hb) e
    omega
  refine (List.perm_ext_iff_of_nodup hnd List.nodup_range).2 fun y => ?_
  constructor
  · intro hy
    obtain ⟨k, hk, rfl⟩ := List.mem_map.1 hy
    exact List.mem_range.2 (h.lt (List.mem_range.1 hk))
  · intro hy
    obtain ⟨x, hx, e⟩ : ∃ x, x < zs.length ∧ nd zs x = y := by
      have hp := h.pm
      have hy := List.mem_range.1 hy
      obtain ⟨h1, h2, -, -⟩ := hp.per hy
      refine ⟨it (nd zs) (per (nd zs) zs.length y - 1) y, hp.lt _ _ hy, ?_⟩
      rw [← it_succ (nd zs), show per (nd zs) zs.length y - 1 + 1 = per (nd zs) zs.length y by omega, h1]
    exact List.mem_map.2 ⟨x, List.mem_range.2 hx, e⟩
def stA (zs : List Int) (i : Nat) : Nat × List (List Nat) := ((nats zs).take i).foldl stp (0, [])
theorem stA_succ {zs : List Int} {i : Nat} (h : i < zs.length) : stA zs (i + 1) = stp (stA zs i) (nd zs i) := by
  unfold stA
  rw [List.take_add_one, List.getElem?_eq_getElem (by rw [nats_len]; exact h), List.foldl_append]
  simp [nats]
theorem stA_end (zs : List Int) : (stA zs zs.length).2 = recs (nats zs) := by
  unfold stA recs
  rw [List.take_of_length_le (by rw [nats_len]; exact Nat.le_refl _)]
theorem stA_hr (zs : List Int) (i : Nat) : Hr (stA zs i).2 := (recs_ok _).1
theorem stA_some {zs : List Int} {i : Nat} (h : i < zs.length) : (stA zs (i + 1)).2 ≠ [] := by
  rw [stA_succ h, stp]
  split
  · simp
  · simp [addLast]
theorem stA_zero (zs : List Int) : stA zs 0 = (0, []) := rfl
theorem stA_bd (zs : List Int) : ∀ i, i ≤ zs.length → (stA zs i).2.length ≤ i
  | 0, _ => Nat.le_refl _
  | i + 1, h => by
    have ih := stA_bd zs i (by omega)
    rw [stA_succ (by omega), stp]
    split
    · rw [List.length_append]
      show _ + 1 ≤ _
      omega
    · unfold addLast
      rw [List.length_append, List.length_dropLast]
      show _ + 1 ≤ _
      omega
theorem round_bad (v : Value) (zs : List Int) (w : World) (h : Rd w v zs) (hno : ¬ OkP zs) :
    Calls Try.prog 21 #[v] w fun e w' => Below w.heap.size w w' ∧ e = .returned (.tuple #[.slice none 0 0, .int .i64 1]) := by
  have HR := Lib.hid (fun w h => right_any v zs w h)
  rw [decide_eq_false hno] at HR
  have H1 := Lib.hid h
  clear h hno
  go_enter Try.func21, Try.ntmps21
  go_wp2_with fail
  refine (HR.out _ H1.out).mono ?_
  rintro e w1 ⟨rfl, hb1⟩
  have HB1 := Lib.hid hb1
  clear hb1
  go_wp2_with fail
  go_ret2
  exact ⟨HB1.out, rfl⟩
set_option maxRecDepth 20000 in
set_option maxHeartbeats 3200000 in
theorem round_ok (v : Value) (zs : List Int) (w : World) (h : Rd w v zs) (k1 : OkP zs) :
    Calls Try.prog 21 #[v] w fun e w' => Below w.heap.size w w' ∧ ∃ u, e = .returned (.tuple #[u, .int .i64 0]) ∧ Rd w' u (tabI zs.length (nxt (recs (nats zs)))) := by
  have HR := Lib.hid (fun w h => right_any v zs w h)
  rw [decide_eq_true k1] at HR
  have H1 := Lib.hid h
  have hn := k1.1
  obtain ⟨a, cap, rfl, hlc, hcm, hop⟩ := h.open
  have HOP := Lib.hid hop
  have HND : Hid (∀ k, k < zs.length → zs.getD k 0 = (nd zs k : Int) ∧ nd zs k < zs.length) := fun k hk => ⟨k1.nd hk, k1.lt hk⟩
  have HSS : Hid (∀ i, i < zs.length → stA zs (i + 1) = stp (stA zs i) (nd zs i)) := fun i hi => stA_succ hi
  have HHR := Lib.hid (stA_hr zs)
  have HBD := Lib.hid (stA_bd zs)
  have HEND := Lib.hid (stA_end zs)
  have HFLL : Hid (∀ i, ((stA zs i).2).flatten.length ≤ 1000) := fun i => by
    show _ ≤ _
    have e : (stA zs i).2.flatten = (nats zs).take i := (recs_ok _).2
    rw [e, List.length_take, nats_len]; omega
  have HBK : Hid (∀ w v, RdM w v (rows (recs (nats zs))) → Calls Try.prog 19 #[v] w fun e w' => Below w.heap.size w w' ∧ ∃ u, e = .returned (.tuple #[u, .int .i64 0]) ∧ Rd w' u (tabI zs.length (nxt (recs (nats zs))))) := fun w v h => by
    obtain ⟨r1, r2⟩ := recs_ok (nats zs)
    have hp : (recs (nats zs)).flatten.Perm (List.range zs.length) := by rw [r2]; exact nats_perm k1
    have hnd : (recs (nats zs)).flatten.Nodup := hp.symm.nodup List.nodup_range
    have hbd := stA_bd zs zs.length (Nat.le_refl _)
    rw [stA_end] at hbd
    refine back_rows v _ zs.length _ w h hp hn (nxt_pm hp) (fun i hi k hk => ?_) (by omega)
    exact nxt_at hnd (by rw [List.getD_eq_getElem?_getD, List.getElem?_eq_getElem hi]; exact List.getElem_mem hi) hk
  generalize recs (nats zs) = R at *
  generalize hst : stA zs = st at *
  have h00 : st 0 = (0, []) := by rw [← hst]; rfl
  have HZ := Lib.hid h00
  generalize nd zs = f at *
  generalize zs.length = n at *
  clear h hop k1 hst h00
  go_enter Try.func21, Try.ntmps21
  go_wp2_with fail
  refine (HR.out _ H1.out).mono ?_
  rintro e w1 ⟨rfl, hb1⟩
  have HB1 := Lib.hid hb1
  have hs1 := hb1.size
  clear hb1
  go_wp2_with fail
  go_loopw [13, 4, 5, 7] (fun iv lv mv _ wr => ∃ (i : Nat) (m : Nat), i ≤ n ∧ iv = .int .i64 i ∧ mv = .int .i64 ((m : Int) - 1) ∧ m ≤ n ∧ Below w.heap.size w wr ∧ Hid ((st i).1 = m) ∧ Hid (((st i).2 = [] ∧ i = 0 ∧ lv = .slice none 0 0) ∨ ∃ Bl Q r, (st i).2 = Q ++ [r] ∧ OL wr w.heap.size Bl lv Q r)) (fun iv _ _ _ _ => n - (intOf iv).toNat)
  case atStart => exact ⟨0, 0, Nat.zero_le _, rfl, rfl, Nat.zero_le _, HB1.out, by show _ = _; rw [HZ.out], .inl ⟨by rw [HZ.out], rfl, rfl⟩⟩
  case round =>
    clear HB1
    obtain ⟨i, m, hi, rfl, rfl, hmn, hbel, hst, hlv⟩ := hrel
    by_cases hlt : i < n
    · obtain ⟨hx1, hx2⟩ := HND.out i hlt
      obtain ⟨b, off, rfl, hb, hc⟩ := HOP.out i hlt
      have cx := (World.cell?_of_block (hbel.block b hb)).trans (hc i hlt)
      rw [hx1] at cx
      have HS := Lib.hid (HSS.out i hlt)
      have HBE := Lib.hid hbel
      have hbd := HBD.out i hi
      have hsw := hbel.size
      have HNE : Hid (∀ r ∈ (st i).2, r ≠ []) := fun r hr => ((HHR.out i).2 r hr).1
      obtain ⟨x, hx⟩ : ∃ x, f i = x := ⟨_, rfl⟩
      rw [hx] at cx hx2 HS
      clear hc hx1 hbel hx
      by_cases hmx : m ≤ x
      · have HOM : Hid (OM wr w.heap.size u4 (rows (st i).2)) := by
          rcases hlv.out with ⟨h1, -, rfl⟩ | ⟨Bl, Q, r, h1, h2⟩
          · rw [h1]; exact OM.nil _ _
          · rw [h1]; exact h2.om
        have HS2 : Hid ((st (i + 1)).1 = x + 1 ∧ (st (i + 1)).2 = (st i).2 ++ [[x]]) := by
          show _ ∧ _
          rw [HS.out, stp, if_pos (by rw [hst.out]; exact hmx)]
          exact ⟨rfl, rfl⟩
        have f1 : decide ((m : Int) - 1 < (x : Int)) = true := decide_eq_true (by omega)
        clear hlv hst
        generalize (st i).2 = R0 at *
        go_wp2_with (at_builtin; go_must (refine push_nil rfl _ _ rfl w.heap.size _ R0 rfl HOM.out HNE.out _ rfl rfl (by omega) hsw ?_))
        intro lv' w5 hol hb5
        have hol' := hol
        obtain ⟨V, q1, q2, q3, q4, q5⟩ := hol'
        obtain ⟨g, lc, rfl, k1, k2, k3, k4, k5⟩ := own_open q1 (by omega)
        have cV := k5 R0.length (V R0.length) (by simp)
        have fV := World.ownsRow.frozenAt q1 R0.length
        have Q1 := Lib.hid q1; have Q2 := Lib.hid q2; have Q3 := Lib.hid q3
        have HB5 := Lib.hid (HBE.out.trans (hb5.mono (Nat.le_refl _)))
        unfold maxLen at k2
        clear hol hb5 q1 q2 q3 k5 HOM HNE
        have HNX := Lib.hid (fun (w6 : World) (V' : Value) (o : Obj) hown hgr => OL.next (w5 := w6) (V' := V') (x := x) (o := o) Q1.out Q2.out Q3.out q4 q5 rfl hown hgr)
        obtain ⟨VV, hVV⟩ : ∃ VV, V R0.length = VV := ⟨_, rfl⟩
        rw [hVV] at cV Q3 HNX
        obtain ⟨k, hk⟩ : ∃ k, R0.length = k := ⟨_, rfl⟩
        rw [hk] at cV fV HNX k1 hbd ⊢
        have g1 : ((k + 1 : Nat) : Int) - 1 = (k : Int) := by omega
        clear hVV hk Q1 Q2
        go_wp2_with (at_builtin; go_must (refine push2 rfl _ _ rfl w5.heap.size _ 0 (ints []) rfl Q3.out (x : Int) _ rfl rfl (by omega) (Nat.le_refl _) ?_))
        intro V' w6 hown6 hgr6 hwh6
        obtain ⟨gv, cv, rfl, -⟩ := own_open hown6 (by omega)
        obtain ⟨hol6, hb6, c6, f6⟩ := HNX.out w6 _ _ hown6 hgr6
        have HOL := Lib.hid hol6
        have HB6 := Lib.hid (HB5.out.trans hb6)
        have HF1 : Hid ((st (i + 1)).2 = R0 ++ [[] ++ [x]]) := by show _ = _; rw [HS2.out.2]; rfl
        have HF2 : Hid ((st (i + 1)).1 = x + 1) := HS2.out.1
        clear hown6 hgr6 hwh6 hol6 hb6 HNX cV fV
        go_wp2_with fail
        exact ⟨⟨i + 1, x + 1, by omega, by go_num, by go_num, by omega, HB6.out, HF2, .inr ⟨_, R0, _, HF1.out, HOL.out⟩⟩, by simp [intOf]; omega⟩
      · have f1 : decide ((m : Int) - 1 < (x : Int)) = false := decide_eq_false (by omega)
        rcases hlv.out with ⟨-, h0, -⟩ | ⟨Bl, Q, r, hQ, hol⟩
        · exfalso
          subst h0
          have := hst.out
          rw [HZ.out] at this
          have : (0 : Nat) = m := this
          omega
        · have HF : Hid ((st (i + 1)).2 = Q ++ [r ++ [x]] ∧ (st (i + 1)).1 = m) := by
            show _ ∧ _
            rw [HS.out, stp, if_neg (by rw [hst.out]; exact hmx), hQ]
            exact ⟨addLast_append Q r x, hst.out⟩
          have hbd2 := hbd
          rw [hQ, List.length_append] at hbd2
          obtain ⟨V, q1, q2, q3, q4, q5⟩ := hol
          obtain ⟨g, lc, rfl, k1, k2, k3, k4, k5⟩ := own_open q1 (by omega)
          have cV := k5 Q.length (V Q.length) (by simp)
          have fV := World.ownsRow.frozenAt q1 Q.length
          have HNX := Lib.hid (fun (w6 : World) (V' : Value) (o : Obj) hown hgr => OL.next (w5 := w6) (V' := V') (x := x) (o := o) q1 q2 q3 q4 q5 rfl hown hgr)
          have Q3 := Lib.hid q3
          unfold maxLen at k2
          have hrl : r.length ≤ 17592186044415 := by
            have h3 := q3.1
            obtain ⟨e1, -⟩ := HHR.out i
            have hf : ((st i).2).flatten.length ≤ 1000 := HFLL.out i
            rw [hQ, List.flatten_append, List.flatten_singleton, List.length_append] at hf
            omega
          clear q1 q2 q3 k5 hQ hlv hst hbd HNE
          obtain ⟨VV, hVV⟩ : ∃ VV, V Q.length = VV := ⟨_, rfl⟩
          rw [hVV] at cV Q3 HNX
          obtain ⟨k, hk⟩ : ∃ k, Q.length = k := ⟨_, rfl⟩
          rw [hk] at cV fV HNX k1 hbd2 ⊢
          have g1 : ((k + 1 : Nat) : Int) - 1 = (k : Int) := by omega
          clear hVV hk
          go_wp2_with (at_builtin; go_must (refine push2 rfl _ _ rfl Bl _ r.length (ints r) rfl Q3.out (x : Int) _ rfl rfl (by omega) q5 ?_))
          intro V' w6 hown6 hgr6 hwh6
          obtain ⟨gv, cv, rfl, -⟩ := own_open hown6 (by omega)
          obtain ⟨hol6, hb6, c6, f6⟩ := HNX.out w6 _ _ (by rw [List.map_append]; exact hown6) hgr6
          have HOL := Lib.hid hol6
          have HB6 := Lib.hid (HBE.out.trans hb6)
          clear hown6 hgr6 hwh6 hol6 hb6 HNX cV fV
          go_wp2_with fail
          exact ⟨⟨i + 1, m, by omega, by go_num, rfl, by omega, HB6.out, HF.out.2, .inr ⟨_, Q, _, HF.out.1, HOL.out⟩⟩, by simp [intOf]; omega⟩
    · obtain rfl : i = n := by omega
      have hrd : RdM wr u4 (rows R) := by
        rw [← HEND.out]
        rcases hlv.out with ⟨h1, -, rfl⟩ | ⟨Bl, Q, r, h1, h2⟩
        · rw [h1]; exact (OM.nil wr w.heap.size).rd
        · rw [h1]; exact h2.om.rd
      have HBE := Lib.hid hbel
      have HC := Lib.hid (HBK.out wr u4 hrd)
      clear hrd hbel hlv hst
      go_wp2_with fail
      refine HC.out.mono ?_
      rintro e w2 ⟨hb2, u, rfl, hu⟩
      have HU := Lib.hid hu
      have HB2 := Lib.hid (HBE.out.trans (hb2.mono HBE.out.size))
      clear hb2 hu
      go_wp2_with fail
      go_ret2
      exact ⟨HB2.out, _, rfl, HU.out⟩
end Go.Proofs.Ythnalgkojoeniaa
